/- TopMerging: for every input the law's function returns true, and the input reads as it did. -/
import Derived.Test.YtdghoeofijghfaaGreatMg6
import Derived.ChangeMaps5
import Derived.OpenShut
import Derived.ProofKit
import Derived.SliceStrings
import Derived.Test.YtdghoeofijghfaaGreatRows
import Derived.WalkKit
import Derived.WideKeyArgs
set_option linter.unusedSimpArgs false
set_option linter.unusedVariables false
noncomputable section
namespace Go.AW
open Go Go.Proofs
set_option maxHeartbeats 1600000
set_option maxRecDepth 100000
theorem qnx {p0:Int} {p1:Int} {r:(List (List UInt8)) × Int} (h:qeA p0 p1=some r):Pure Tryz.prog 39 [hI p0,hI p1] (· = HV.tup [slE eStr r.1,hI r.2]):=by
 unfold qeA at h;refine zaj Tryz.func39 rfl rfl (lb rfl) fun hf=>?_;unfold Tryz.f39;dsimp only [qaL,Nat.reduceAdd];refine zaa rfl fun K hK=>mv rfl rfl (mv rfl rfl ?_);let P1:ASf:=fun t H=>⟨(0,hI p0)::t,H⟩;refine bf hK (P1 [(1,hI p1)] []) ?_;refine zad (zaf ?_);refine zaa rfl fun K hK=>mv rfl rfl ?_;obtain ⟨x1,h2,h⟩:=bS h;refine b_op rfl (qat rfl rfl rfl rfl (zai (qh7 h2)) ?_);refine bv rfl (qdX rfl) (mv rfl rfl ?_);refine bf hK (P1 [(1,hI p1),(11,.bool (!x1))] []) ?_;refine zae rfl (fun hc=>?_) (fun hc=>?_)
 ·have h:=ifT hc h
  refine zaa rfl fun K hK=>mv rfl rfl (mv rfl rfl ?_);refine bf hK ⟨[(4,.v (.slice none 0 0)),(5,hI 12)],[]⟩ ?_;refine AW.to (qcR ⟨[(4,slE eStr ([]:List (List UInt8))),(5,hI 12)],[]⟩ ⟨⟨_,rfl,.nil _⟩,⟨_,rfl,.refl _⟩,trivial⟩ trivial ?_);obtain rfl:=oi h;exact AW.ret (qae (.inr rfl) (resT rfl (resT rfl rfl)) rfl ⟨(qar fun _ _=>⟨trivial,trivial⟩),trivial,trivial⟩)
 have h:=ifF (bF' hc) h;refine zaa rfl fun K hK=>mv rfl rfl (bv rfl (qag rfl rfl qaF) (mv rfl rfl ?_));refine bf hK (P1 [(1,hI p1),(15,.bool (decide (p1<0)))] []) ?_;refine zae rfl (fun hc=>?_) (fun hc=>?_)
 ·obtain ⟨hc,h⟩:=cT hc h
  refine zaa rfl fun K hK=>mv rfl rfl (mv rfl rfl ?_);refine bf hK ⟨[(4,.v (.slice none 0 0)),(5,hI 2)],[]⟩ ?_;refine AW.to (qcR ⟨[(4,slE eStr ([]:List (List UInt8))),(5,hI 2)],[]⟩ ⟨⟨_,rfl,.nil _⟩,⟨_,rfl,.refl _⟩,trivial⟩ trivial ?_);obtain rfl:=oi h;exact AW.ret (qae (.inr rfl) (resT rfl (resT rfl rfl)) rfl ⟨(qar fun _ _=>⟨trivial,trivial⟩),trivial,trivial⟩)
 obtain ⟨hc,h⟩:=cF hc h;refine zaa rfl fun K hK=>mv rfl rfl (bv rfl (qag rfl rfl qbB) (mv rfl rfl ?_));refine bf hK (P1 [(1,hI p1),(18,.bool (decide (65536<p1)))] []) ?_;refine zae rfl (fun hc=>?_) (fun hc=>?_)
 ·obtain ⟨hc,h⟩:=cT hc h
  refine zaa rfl fun K hK=>mv rfl rfl (mv rfl rfl ?_);refine bf hK ⟨[(4,.v (.slice none 0 0)),(5,hI 4)],[]⟩ ?_;refine AW.to (qcR ⟨[(4,slE eStr ([]:List (List UInt8))),(5,hI 4)],[]⟩ ⟨⟨_,rfl,.nil _⟩,⟨_,rfl,.refl _⟩,trivial⟩ trivial ?_);obtain rfl:=oi h;exact AW.ret (qae (.inr rfl) (resT rfl (resT rfl rfl)) rfl ⟨(qar fun _ _=>⟨trivial,trivial⟩),trivial,trivial⟩)
 obtain ⟨hc,h⟩:=cF hc h;refine zac ?_;refine zad ?_;refine zaa rfl fun K hK=>mv rfl rfl (bv rfl (qag rfl rfl qdT) ?_);refine bf hK (P1 [(1,hI p1),(22,.bool (decide (p0=1)))] []) ?_;refine zae rfl (fun hc=>?_) (fun hc=>?_)
 ·obtain ⟨hc,h⟩:=cT hc h
  refine zaa rfl fun K hK=>mv rfl rfl ?_;obtain ⟨x3,h4,h⟩:=bS h;refine b_op rfl (qat rfl rfl rfl rfl (zai (qin h4)) ?_);refine b_op rfl (qdx rfl rfl (qdp (cs:=[.str x3]) ty22 ty9 rfl rfl rfl rfl rfl) ?_);refine mv rfl rfl (mv rfl rfl ?_);refine bf hK ⟨[(4,slE eStr [x3]),(5,hI 0)],[]⟩ ?_;obtain rfl:=oi h;exact AW.ret (qae (.inr rfl) (resT rfl (resT rfl rfl)) rfl ⟨(qar fun _ _=>⟨trivial,trivial⟩),trivial,trivial⟩)
 obtain ⟨hc,h⟩:=cF hc h;refine zac ?_;refine zaa rfl fun K hK=>b_op rfl (qdx rfl rfl (qdp (cs:=[.str nS]) ty22 ty9 rfl rfl rfl rfl rfl) ?_);refine mv rfl rfl ?_;refine bf hK (P1 [(1,hI p1),(6,slE eStr [nS])] []) ?_;refine zad ?_;refine zaa rfl fun K hK=>mv rfl rfl (mv rfl rfl ?_);refine bf hK (P1 [(6,slE eStr [nS]),(27,hI p1),(28,hI 0)] []) ?_;refine AW.lpR h (by first | exact qa8 | exact qc3) (S:=(List (List UInt8)) × Int) (V:=Unit) (fun a v=>(P1 [(6,slE eStr a.1),(27,hI p1),(28,hI a.2)] [])) ?_ (X:=(List (List UInt8))) (W:=Unit) (fun a v=>⟨[(6,slE eStr a)],[]⟩) (fun a29 w30 h=>?_) (fun a5 w6 st7 h hr8=> ?_)
 ·exact to_L ⟨(),rfl⟩
 ·refine zaa rfl fun K hK=>mv rfl rfl (mv rfl rfl (mv rfl rfl ?_))
  refine bf hK ⟨[(4,slE eStr a29),(5,hI 0)],[]⟩ ?_;obtain rfl:=oi h;exact AW.ret (qae (.inr rfl) (resT rfl (resT rfl rfl)) rfl ⟨(qar fun _ _=>⟨trivial,trivial⟩),trivial,trivial⟩)
 refine zaa rfl fun K hK=>bv rfl (qag rfl rfl qaF) ?_;refine bf hK (P1 [(6,slE eStr a5.1),(27,hI p1),(28,hI a5.2),(29,.bool (decide (a5.2<p1)))] []) ?_;refine zak rfl (fun hc=>?_) (fun hc=>?_)
 ·obtain ⟨hc,h⟩:=cT hc h
  refine zac ?_;refine zad (zaf ?_);refine zad ?_;refine zaa rfl fun K hK=>mv rfl rfl (bv rfl (qav rfl rfl ty22 rfl) (mv rfl rfl (bv rfl (qag rfl rfl qpk) (bv rfl (qag rfl rfl qbB) ?_))));refine bf hK (P1 [(6,slE eStr a5.1),(27,hI p1),(28,hI a5.2),(34,.bool (decide (4096<(IntKind.wrap .i64 (((a5.1).length:Int)*p0)))))] []) ?_;refine zae rfl (fun hc=>?_) (fun hc=>?_)
  ·obtain ⟨hc,h⟩:=cT hc h
   refine zaa rfl fun K hK=>mv rfl rfl (mv rfl rfl ?_);refine bf hK ⟨[(4,.v (.slice none 0 0)),(5,hI 4)],[]⟩ ?_;have h:=hr8 _ h;refine AW.to (qcR ⟨[(4,slE eStr ([]:List (List UInt8))),(5,hI 4)],[]⟩ ⟨⟨_,rfl,.nil _⟩,⟨_,rfl,.refl _⟩,trivial⟩ trivial ?_);obtain rfl:=oi h;exact AW.ret (qae (.inr rfl) (resT rfl (resT rfl rfl)) rfl ⟨(qar fun _ _=>⟨trivial,trivial⟩),trivial,trivial⟩)
  obtain ⟨hc,h⟩:=cF hc h;refine zac ?_;refine zaa rfl fun K hK=>mv rfl rfl (bv rfl (qav rfl rfl ty22 rfl) (mv rfl rfl (bv rfl (qag rfl rfl qpk) ?_)));obtain ⟨h10,h⟩:=ifN h;refine b_op rfl (qjg (fid:=39) eStr (nS:List UInt8) 39039 rfl rfl ty22 rfl rfl ty9 rfl rfl h10 (fun v9=>?_));refine mv rfl rfl ?_;let E1:Nat × HV:=(7,.ar 39039 v9 eStr.k 0 ((List.replicate (0:Int).toNat (nS:List UInt8)).length));let O2:Nat × Nat × AObj:=(39039,v9,.arr eStr.k 9 (eStr.E (List.replicate (0:Int).toNat (nS:List UInt8))));refine bf hK (P1 [(6,slE eStr a5.1),E1,(27,hI p1),(28,hI a5.2)] [O2]) ?_;refine zad ?_;refine zaa rfl fun K hK=>mv rfl rfl (bv rfl (qav rfl rfl ty22 rfl) (mv rfl rfl ?_));let E3:Nat × HV:=(41,hI ((a5.1).length:Int));refine bf hK (P1 [E1,(27,hI p1),(28,hI a5.2),(40,slE eStr a5.1),E3,(42,hI 0)] [O2]) ?_;refine AW.lpX h (by first | exact qa8 | exact qc3) (S:=Int × (List (List UInt8))) (V:=Nat) (fun a v=>(P1 [(7,.ar 39039 v eStr.k 0 ((a.2).length)),(27,hI p1),(28,hI a5.2),(40,slE eStr a5.1),E3,(42,hI a.1)] [(39039,v,.arr eStr.k 9 (eStr.E a.2))])) ?_ (X:=(List (List UInt8))) (W:=Nat) (fun a v=>(P1 [(7,.ar 39039 v eStr.k 0 ((a).length)),(27,hI p1),(28,hI a5.2)] [(39039,v,.arr eStr.k 9 (eStr.E a))])) (fun a27 w28 h=>?_) (fun a11 w12 st13 h=>?_)
  ·exact to_L ⟨v9,rfl⟩
  ·refine zab rfl fun K hK=>mv rfl rfl (mv rfl rfl ?_)
   refine bf hK (P1 [(6,.ar 39039 w28 eStr.k 0 ((a27).length)),(27,hI p1),(28,hI a5.2)] [(39039,w28,.arr eStr.k 9 (eStr.E a27))]) ?_;refine zab rfl fun K hK=>bv rfl (qag rfl rfl qaX) (mv rfl rfl ?_);refine qab (hK _ ?_);refine qeE (qgP 2 [(39039,w28,.arr eStr.k 9 (eStr.E a27))] (P1 [(6,slE eStr a27),(27,hI p1),(28,hI (IntKind.wrap .i64 (a5.2+1)))] []) ⟨⟨_,rfl,rfl⟩,⟨_,rfl,qci eStr (l:=a27) rfl fun _ _=>rfl⟩,⟨_,rfl,rfl⟩,⟨_,rfl,rfl⟩,trivial⟩ trivial ⟨rfl,trivial⟩ ⟨rfl,trivial⟩ ?_);exact to_L ⟨(a27,IntKind.wrap .i64 (a5.2+1)),(),h,rfl⟩
  refine zaa rfl fun K hK=>bv rfl (qag rfl rfl qaF) ?_;let E4:Nat × HV:=(7,.ar 39039 w12 eStr.k 0 ((a11.2).length));let O5:Nat × Nat × AObj:=(39039,w12,.arr eStr.k 9 (eStr.E a11.2));refine bf hK (P1 [E4,(27,hI p1),(28,hI a5.2),(40,slE eStr a5.1),E3,(42,hI a11.1),(43,.bool (decide (a11.1<((a5.1).length:Int))))] [O5]) ?_;refine zak rfl (fun hc=>?_) (fun hc=>?_)
  ·obtain ⟨hc,h⟩:=cT hc h
   refine zac ?_;refine zad (zaf ?_);refine zaa rfl fun K hK=>?_;obtain ⟨x15,h16,h⟩:=bS h;refine bv rfl (qaI ty22 es22 rfl rfl (qay h16)) (bv rfl (qad ty9 rfl (qaW eStr h16 (o:=0) rfl rfl)) (mv rfl rfl ?_));refine bf hK (P1 [E4,(9,.str x15),(27,hI p1),(28,hI a5.2),(40,slE eStr a5.1),E3,(42,hI a11.1)] [O5]) ?_;refine zaa rfl fun K hK=>mv rfl rfl (mv rfl rfl ?_);refine bf hK (P1 [E4,(9,.str x15),(27,hI p1),(28,hI a5.2),(40,slE eStr a5.1),E3,(42,hI a11.1),(46,hI p0),(47,hI 0)] [O5]) ?_;refine AW.lpX h (by first | exact qa8 | exact qc3) (S:=Int × (List (List UInt8))) (V:=Nat) (fun a v=>(P1 [(7,.ar 39039 v eStr.k 0 ((a.2).length)),(9,.str x15),(27,hI p1),(28,hI a5.2),(40,slE eStr a5.1),E3,(42,hI a11.1),(46,hI p0),(47,hI a.1)] [(39039,v,.arr eStr.k 9 (eStr.E a.2))])) ?_ (X:=(List (List UInt8))) (W:=Nat) (fun a v=>(P1 [(7,.ar 39039 v eStr.k 0 ((a).length)),(27,hI p1),(28,hI a5.2),(40,slE eStr a5.1),E3,(42,hI a11.1)] [(39039,v,.arr eStr.k 9 (eStr.E a))])) (fun a25 w26 h=>?_) (fun a17 w18 st19 h=>?_)
   ·exact to_L ⟨w12,rfl⟩
   ·refine zab rfl fun K hK=>bv rfl (qag rfl rfl qaX) (mv rfl rfl ?_)
    refine qab (hK _ ?_);exact to_L ⟨(IntKind.wrap .i64 (a11.1+1),a25),w26,h,rfl⟩
   refine zaa rfl fun K hK=>bv rfl (qag rfl rfl qaF) ?_;refine bf hK (P1 [(7,.ar 39039 w18 eStr.k 0 ((a17.2).length)),(9,.str x15),(27,hI p1),(28,hI a5.2),(40,slE eStr a5.1),E3,(42,hI a11.1),(46,hI p0),(47,hI a17.1),(48,.bool (decide (a17.1<p0)))] [(39039,w18,.arr eStr.k 9 (eStr.E a17.2))]) ?_;refine zak rfl (fun hc=>?_) (fun hc=>?_)
   ·obtain ⟨hc,h⟩:=cT hc h
    refine zac ?_;refine zad (zaf ?_);refine zaa rfl fun K hK=>mv rfl rfl (mv rfl rfl ?_);refine bf hK (P1 [(7,.ar 39039 w18 eStr.k 0 ((a17.2).length)),(9,.str x15),(10,hI a17.1),(27,hI p1),(28,hI a5.2),(40,slE eStr a5.1),E3,(42,hI a11.1),(46,hI p0),(47,hI a17.1)] [(39039,w18,.arr eStr.k 9 (eStr.E a17.2))]) ?_;refine zab rfl fun K hK=>mv rfl rfl (mv rfl rfl (mv rfl rfl (mv rfl rfl (bv rfl (qag rfl rfl qaX) ?_))));obtain ⟨h21,h⟩:=ifN h;refine bv rfl (qc2 ty9 rfl rfl rfl h21) ?_;obtain ⟨h22,h⟩:=ifN h;refine bv rfl (qag rfl rfl (qkd h22)) ?_;refine b_op rfl (qdx rfl rfl (qdp (cs:=[.str (x15++((([48,49,50,51,52,53,54,55,56,57,97,98,99,100,101,102]:List UInt8).take (IntKind.wrap .i64 (a17.1+1)).toNat).drop (a17.1).toNat))]) ty22 ty9 rfl rfl rfl rfl rfl) ?_);obtain ⟨h24,h⟩:=ifN h;refine b_op rfl (qeF eStr (l:=a17.2) (m:=[x15++((([48,49,50,51,52,53,54,55,56,57,97,98,99,100,101,102]:List UInt8).take (IntKind.wrap .i64 (a17.1+1)).toNat).drop (a17.1).toNat)]) rfl rfl ty22 ty22 ty9 rfl rfl rfl rfl rfl h24 (fun v23=>?_));refine mv rfl rfl ?_;refine bf hK (P1 [(7,.ar 39039 v23 eStr.k 0 ((a17.2++[x15++((([48,49,50,51,52,53,54,55,56,57,97,98,99,100,101,102]:List UInt8).take (IntKind.wrap .i64 (a17.1+1)).toNat).drop (a17.1).toNat)]).length)),(9,.str x15),(27,hI p1),(28,hI a5.2),(40,slE eStr a5.1),E3,(42,hI a11.1),(46,hI p0),(47,hI a17.1)] [(39039,v23,.arr eStr.k 9 (eStr.E (a17.2++[x15++((([48,49,50,51,52,53,54,55,56,57,97,98,99,100,101,102]:List UInt8).take (IntKind.wrap .i64 (a17.1+1)).toNat).drop (a17.1).toNat)])))]) ?_;refine zab rfl fun K hK=>bv rfl (qag rfl rfl qaX) (mv rfl rfl ?_);refine qab (hK _ ?_);exact to_L ⟨(IntKind.wrap .i64 (a17.1+1),a17.2++[x15++((([48,49,50,51,52,53,54,55,56,57,97,98,99,100,101,102]:List UInt8).take (IntKind.wrap .i64 (a17.1+1)).toNat).drop (a17.1).toNat)]),v23,h,rfl⟩
   obtain ⟨hc,h⟩:=cF hc h;refine AW.exit ?_;exact to_L ⟨a17.2,w18,h,rfl⟩
  obtain ⟨hc,h⟩:=cF hc h;refine AW.exit ?_;exact to_L ⟨a11.2,w12,h,rfl⟩
 obtain ⟨hc,h⟩:=cF hc h;refine AW.exit ?_;exact to_L ⟨a5.1,(),h,rfl⟩
theorem qiV (p0:qaa) (p1:List (List UInt8)) (p2:List (List UInt8)):Pure Tryz.prog 40 [gA p0,slE eStr p1,slE eStr p2] (· = HV.fn (.func 72) [] [.fptr [slE eStr p1] 0,gF p0,.fptr [slE eStr p2] 0]):=by
 refine zaj Tryz.func40 rfl rfl (lb rfl) fun hf=>?_;unfold Tryz.f40;dsimp only [qaL,Nat.reduceAdd];refine zaa rfl fun K hK=>b_op rfl (qbh rfl rfl rfl ?_);refine b_op rfl (qbh rfl rfl rfl ?_);refine b_op rfl (qbh rfl rfl rfl ?_);refine mv rfl rfl ?_;refine bf hK ⟨[(3,gF p0),(4,.fptr [slE eStr p1] 0),(5,.fptr [slE eStr p2] 0)],[]⟩ ?_;refine zaa rfl fun K hK=>bv rfl (qeT rfl rfl) (mv rfl rfl ?_);refine bf hK ⟨[(6,.fn (.func 72) [] [.fptr [slE eStr p1] 0,gF p0,.fptr [slE eStr p2] 0])],[]⟩ ?_;refine AW.ret ?_;exact qae (.inr rfl) (resT rfl rfl) rfl ⟨trivial,⟨⟨(qar fun _ _=>⟨trivial,trivial⟩),trivial⟩,⟨trivial,trivial,(qar fun _ _=>⟨trivial,trivial,trivial,trivial⟩),trivial⟩,⟨(qar fun _ _=>⟨trivial,trivial⟩),trivial⟩,trivial⟩⟩
theorem qiW {p0:qaa} {p1:Int} {p2:Int} {p3:Int} {r:qaw × Int} (h:qcW p0 p1 p2 p3=some r):Pure Tryz.prog 13 [gA p0,hI p1,hI p2,hI p3] (· = HV.tup [.agg [slE eStr r.1.1,slE eStr r.1.2],hI r.2]):=by
 unfold qcW at h;refine zaj Tryz.func13 rfl rfl (lb rfl) fun hf=>?_;unfold Tryz.f13;dsimp only [qaL,Nat.reduceAdd];refine zaa rfl fun K hK=>b_op rfl (qbh rfl rfl rfl ?_);refine b_op rfl (qbh rfl rfl rfl ?_);refine b_op rfl (qaC (fid:=13) (zs:=[.v (.slice none 0 0),.v (.slice none 0 0)]) 13008 rfl rfl ty24 rfl (fun v1=>?_));refine b_op rfl (qaC (fid:=13) (zs:=[hI 0]) 13009 rfl rfl ty31 rfl (fun v2=>?_));let O6:Nat × Nat × AObj:=(13008,v1,.arr 2 24 [.v (.slice none 0 0),.v (.slice none 0 0)]);let O7:Nat × Nat × AObj:=(13009,v2,.arr 1 31 [hI 0]);let P2:ASf:=fun t H=>⟨(1,hI p1)::(2,hI p2)::(4,gF p0)::(7,.fptr [hI p3] 0)::(8,.ptr 13008 v1 0)::(9,.ptr 13009 v2 0)::t,O6::O7::H⟩;refine bf hK (P2 [] []) ?_;refine zad ?_;refine zaa rfl fun K hK=>bv rfl (qad ty27 rfl (qao rfl (lb rfl) rfl)) ?_;obtain ⟨x3,h4,h⟩:=bS h;refine b_op rfl (qat rfl rfl rfl rfl (zai (qc0 h4)) ?_);refine bv rfl (qag rfl rfl qcv) ?_;refine bf hK (P2 [(20,.bool (decide (x3≠0)))] []) ?_;refine zae rfl (fun hc=>?_) (fun hc=>?_)
 ·obtain ⟨hc,h⟩:=cT hc h
  refine zaa rfl fun K hK=>b_op rfl (qcC (cs:=[.v (.slice none 0 0),.v (.slice none 0 0)]) rfl (qfM ty24 rfl rfl rfl rfl) ?_);refine b_op rfl (qax (cs:=[.v (.slice none 0 0),.v (.slice none 0 0)]) (zs:=[.v (.slice none 0 0),.v (.slice none 0 0)]) rfl rfl rfl ty24 rfl rfl rfl rfl rfl ?_);refine b_op rfl (qax (cs:=[hI 1]) (zs:=[hI 1]) rfl rfl rfl ty31 rfl rfl rfl rfl rfl ?_);refine bf hK ⟨[(8,.ptr 13008 v1 0),(9,.ptr 13009 v2 0)],[O6,(13009,v2,.arr 1 31 [hI 1])]⟩ ?_;refine AW.to (qfq 13008 v1 (ds:=[slE eStr ([]:List (List UInt8)),slE eStr ([]:List (List UInt8))]) rfl (.cons (.nil _) <| .cons (.nil _) <| .nil) ?_);obtain rfl:=oi h;exact AW.ret (qae (.inr rfl) (resP ty24 rfl rfl (qao rfl (lb rfl) rfl) (resP ty31 rfl rfl (qaj rfl rfl) rfl)) rfl ⟨⟨(qar fun _ _=>⟨trivial,trivial⟩),(qar fun _ _=>⟨trivial,trivial⟩),trivial⟩,trivial,trivial⟩)
 obtain ⟨hc,h⟩:=cF hc h;refine zac ?_;refine zad ?_;refine zaa rfl fun K hK=>bv rfl (qac qij rfl) (bv rfl (qad ty3 rfl (qaj rfl rfl)) (bv rfl (qag rfl rfl qcv) ?_));refine bf hK (P2 [(24,.bool (decide (p0.1≠2)))] []) ?_;refine zae rfl (fun hc=>?_) (fun hc=>?_)
 ·obtain ⟨hc,h⟩:=cT hc h
  refine zaa rfl fun K hK=>b_op rfl (qcC (cs:=[.v (.slice none 0 0),.v (.slice none 0 0)]) rfl (qfM ty24 rfl rfl rfl rfl) ?_);refine b_op rfl (qax (cs:=[.v (.slice none 0 0),.v (.slice none 0 0)]) (zs:=[.v (.slice none 0 0),.v (.slice none 0 0)]) rfl rfl rfl ty24 rfl rfl rfl rfl rfl ?_);refine b_op rfl (qax (cs:=[hI 12]) (zs:=[hI 12]) rfl rfl rfl ty31 rfl rfl rfl rfl rfl ?_);refine bf hK ⟨[(8,.ptr 13008 v1 0),(9,.ptr 13009 v2 0)],[O6,(13009,v2,.arr 1 31 [hI 12])]⟩ ?_;refine AW.to (qfq 13008 v1 (ds:=[slE eStr ([]:List (List UInt8)),slE eStr ([]:List (List UInt8))]) rfl (.cons (.nil _) <| .cons (.nil _) <| .nil) ?_);obtain rfl:=oi h;exact AW.ret (qae (.inr rfl) (resP ty24 rfl rfl (qao rfl (lb rfl) rfl) (resP ty31 rfl rfl (qaj rfl rfl) rfl)) rfl ⟨⟨(qar fun _ _=>⟨trivial,trivial⟩),(qar fun _ _=>⟨trivial,trivial⟩),trivial⟩,trivial,trivial⟩)
 obtain ⟨hc,h⟩:=cF hc h;refine zac ?_;refine zaa rfl fun K hK=>bv rfl (qad ty27 rfl (qao rfl (lb rfl) rfl)) ?_;obtain ⟨x5,h6,h⟩:=bS h;refine b_op rfl (qat rfl rfl rfl rfl (zai (qf2 h6)) ?_);refine mv rfl rfl (bv rfl (qak rfl rfl) (bv rfl (qak rfl rfl) (mv rfl rfl (mv rfl rfl ?_))));refine bf hK (P2 [(10,.bool x5.1),(11,hI x5.2)] []) ?_;refine zaa rfl fun K hK=>bv rfl (qad ty27 rfl (qao rfl (lb rfl) rfl)) ?_;obtain ⟨x7,h8,h⟩:=bS h;refine b_op rfl (qat rfl rfl rfl rfl (zai (qfp h8)) ?_);refine mv rfl rfl (bv rfl (qak rfl rfl) (bv rfl (qak rfl rfl) (mv rfl rfl (mv rfl rfl ?_))));refine bf hK (P2 [(10,.bool x5.1),(11,hI x5.2),(12,.bool x7.1),(13,hI x7.2)] []) ?_;refine zad ?_;refine zag h (S:=Bool) (V:=Unit) (fun a v=>(P2 [(49,.bool a)] [])) (fun a9 w10 h=>?_) (fun k11 h=>?_)
 ·refine zae rfl (fun hc=>?_) (fun hc=>?_)
  ·have h:=ifT hc h
   refine zaa rfl fun K hK=>b_op rfl (qcC (cs:=[.v (.slice none 0 0),.v (.slice none 0 0)]) rfl (qfM ty24 rfl rfl rfl rfl) ?_);refine b_op rfl (qax (cs:=[.v (.slice none 0 0),.v (.slice none 0 0)]) (zs:=[.v (.slice none 0 0),.v (.slice none 0 0)]) rfl rfl rfl ty24 rfl rfl rfl rfl rfl ?_);refine b_op rfl (qax (cs:=[hI 8]) (zs:=[hI 8]) rfl rfl rfl ty31 rfl rfl rfl rfl rfl ?_);refine bf hK ⟨[(8,.ptr 13008 v1 0),(9,.ptr 13009 v2 0)],[O6,(13009,v2,.arr 1 31 [hI 8])]⟩ ?_;refine AW.to (qfq 13008 v1 (ds:=[slE eStr ([]:List (List UInt8)),slE eStr ([]:List (List UInt8))]) rfl (.cons (.nil _) <| .cons (.nil _) <| .nil) ?_);obtain rfl:=oi h;exact AW.ret (qae (.inr rfl) (resP ty24 rfl rfl (qao rfl (lb rfl) rfl) (resP ty31 rfl rfl (qaj rfl rfl) rfl)) rfl ⟨⟨(qar fun _ _=>⟨trivial,trivial⟩),(qar fun _ _=>⟨trivial,trivial⟩),trivial⟩,trivial,trivial⟩)
  have h:=ifF (bF' hc) h;refine zac ?_;refine zad ?_;refine zag h (S:=Bool) (V:=Unit) (fun a v=>(P2 [(72,.bool a)] [])) (fun a12 w13 h=>?_) (fun k14 h=>?_)
  ·refine zae rfl (fun hc=>?_) (fun hc=>?_)
   ·have h:=ifT hc h
    refine zaa rfl fun K hK=>b_op rfl (qcC (cs:=[.v (.slice none 0 0),.v (.slice none 0 0)]) rfl (qfM ty24 rfl rfl rfl rfl) ?_);refine b_op rfl (qax (cs:=[.v (.slice none 0 0),.v (.slice none 0 0)]) (zs:=[.v (.slice none 0 0),.v (.slice none 0 0)]) rfl rfl rfl ty24 rfl rfl rfl rfl rfl ?_);refine b_op rfl (qax (cs:=[hI 2]) (zs:=[hI 2]) rfl rfl rfl ty31 rfl rfl rfl rfl rfl ?_);refine bf hK ⟨[(8,.ptr 13008 v1 0),(9,.ptr 13009 v2 0)],[O6,(13009,v2,.arr 1 31 [hI 2])]⟩ ?_;refine AW.to (qfq 13008 v1 (ds:=[slE eStr ([]:List (List UInt8)),slE eStr ([]:List (List UInt8))]) rfl (.cons (.nil _) <| .cons (.nil _) <| .nil) ?_);obtain rfl:=oi h;exact AW.ret (qae (.inr rfl) (resP ty24 rfl rfl (qao rfl (lb rfl) rfl) (resP ty31 rfl rfl (qaj rfl rfl) rfl)) rfl ⟨⟨(qar fun _ _=>⟨trivial,trivial⟩),(qar fun _ _=>⟨trivial,trivial⟩),trivial⟩,trivial,trivial⟩)
   have h:=ifF (bF' hc) h;refine zac ?_;refine zaa rfl fun K hK=>bv rfl (qad ty27 rfl (qao rfl (lb rfl) rfl)) (mv rfl rfl ?_);obtain ⟨x15,h16,h⟩:=bS h;refine b_op rfl (qat rfl rfl rfl rfl (zai (qiq h16)) ?_);refine mv rfl rfl (bv rfl (qak rfl rfl) (bv rfl (qak rfl rfl) (mv rfl rfl (mv rfl rfl ?_))));let P3:ASf:=fun t H=>⟨(2,hI p2)::(4,gF p0)::(7,.fptr [hI p3] 0)::(8,.ptr 13008 v1 0)::(9,.ptr 13009 v2 0)::(11,hI x15.2)::(14,slE eStr x15.1)::t,O6::O7::H⟩;refine bf hK (P3 [] []) ?_;refine zad ?_;refine zaa rfl fun K hK=>mv rfl rfl (bv rfl (qag rfl rfl qcv) ?_);refine bf hK (P3 [(81,.bool (decide (x15.2≠0)))] []) ?_;refine zae rfl (fun hc=>?_) (fun hc=>?_)
   ·obtain ⟨hc,h⟩:=cT hc h
    refine zaa rfl fun K hK=>b_op rfl (qcC (cs:=[.v (.slice none 0 0),.v (.slice none 0 0)]) rfl (qfM ty24 rfl rfl rfl rfl) ?_);refine mv rfl rfl ?_;refine b_op rfl (qax (cs:=[.v (.slice none 0 0),.v (.slice none 0 0)]) (zs:=[.v (.slice none 0 0),.v (.slice none 0 0)]) rfl rfl rfl ty24 rfl rfl rfl rfl rfl ?_);refine b_op rfl (qax (cs:=[hI x15.2]) (zs:=[hI x15.2]) rfl rfl rfl ty31 rfl rfl rfl rfl rfl ?_);refine bf hK ⟨[(8,.ptr 13008 v1 0),(9,.ptr 13009 v2 0)],[O6,(13009,v2,.arr 1 31 [hI x15.2])]⟩ ?_;refine AW.to (qfq 13008 v1 (ds:=[slE eStr ([]:List (List UInt8)),slE eStr ([]:List (List UInt8))]) rfl (.cons (.nil _) <| .cons (.nil _) <| .nil) ?_);obtain rfl:=oi h;exact AW.ret (qae (.inr rfl) (resP ty24 rfl rfl (qao rfl (lb rfl) rfl) (resP ty31 rfl rfl (qaj rfl rfl) rfl)) rfl ⟨⟨(qar fun _ _=>⟨trivial,trivial⟩),(qar fun _ _=>⟨trivial,trivial⟩),trivial⟩,trivial,trivial⟩)
   obtain ⟨hc,h⟩:=cF hc h;refine zac ?_;refine zaa rfl fun K hK=>mv rfl rfl ?_;obtain ⟨x17,h18,h⟩:=bS h;refine b_op rfl (qat rfl rfl rfl rfl (zai (qnx h18)) ?_);refine mv rfl rfl (bv rfl (qak rfl rfl) (bv rfl (qak rfl rfl) (mv rfl rfl (mv rfl rfl ?_))));let P4:ASf:=fun t H=>⟨(4,gF p0)::(7,.fptr [hI p3] 0)::(8,.ptr 13008 v1 0)::(9,.ptr 13009 v2 0)::t,O6::O7::H⟩;refine bf hK (P4 [(11,hI x17.2),(14,slE eStr x15.1),(15,slE eStr x17.1)] []) ?_;refine zad ?_;refine zaa rfl fun K hK=>mv rfl rfl (bv rfl (qag rfl rfl qcv) ?_);refine bf hK (P4 [(11,hI x17.2),(14,slE eStr x15.1),(15,slE eStr x17.1),(90,.bool (decide (x17.2≠0)))] []) ?_;refine zae rfl (fun hc=>?_) (fun hc=>?_)
   ·obtain ⟨hc,h⟩:=cT hc h
    refine zaa rfl fun K hK=>b_op rfl (qcC (cs:=[.v (.slice none 0 0),.v (.slice none 0 0)]) rfl (qfM ty24 rfl rfl rfl rfl) ?_);refine mv rfl rfl ?_;refine b_op rfl (qax (cs:=[.v (.slice none 0 0),.v (.slice none 0 0)]) (zs:=[.v (.slice none 0 0),.v (.slice none 0 0)]) rfl rfl rfl ty24 rfl rfl rfl rfl rfl ?_);refine b_op rfl (qax (cs:=[hI x17.2]) (zs:=[hI x17.2]) rfl rfl rfl ty31 rfl rfl rfl rfl rfl ?_);refine bf hK ⟨[(8,.ptr 13008 v1 0),(9,.ptr 13009 v2 0)],[O6,(13009,v2,.arr 1 31 [hI x17.2])]⟩ ?_;refine AW.to (qfq 13008 v1 (ds:=[slE eStr ([]:List (List UInt8)),slE eStr ([]:List (List UInt8))]) rfl (.cons (.nil _) <| .cons (.nil _) <| .nil) ?_);obtain rfl:=oi h;exact AW.ret (qae (.inr rfl) (resP ty24 rfl rfl (qao rfl (lb rfl) rfl) (resP ty31 rfl rfl (qaj rfl rfl) rfl)) rfl ⟨⟨(qar fun _ _=>⟨trivial,trivial⟩),(qar fun _ _=>⟨trivial,trivial⟩),trivial⟩,trivial,trivial⟩)
   obtain ⟨hc,h⟩:=cF hc h;refine zac ?_;refine zaa rfl fun K hK=>mv rfl rfl ?_;refine b_op rfl (qcC (cs:=[.v (.slice none 0 0),slE eStr x17.1]) rfl (qfM ty24 rfl rfl rfl rfl) ?_);refine b_op rfl (qaC (fid:=13) (zs:=[.v (.slice none 0 0),.v (.slice none 0 0)]) 13016 rfl rfl ty24 rfl (fun v19=>?_));refine b_op rfl (qax (cs:=[.v (.slice none 0 0),slE eStr x17.1]) (zs:=[.v (.slice none 0 0),slE eStr x17.1]) rfl rfl rfl ty24 rfl rfl rfl rfl rfl ?_);let O8:Nat × Nat × AObj:=(13016,v19,.arr 2 24 [.v (.slice none 0 0),slE eStr x17.1]);refine bf hK (P4 [(14,slE eStr x15.1),(15,slE eStr x17.1),(16,.ptr 13016 v19 0)] [O8]) ?_;refine zad ?_;refine zaa rfl fun K hK=>bv rfl (qad ty27 rfl (qao rfl (lb rfl) rfl)) (mv rfl rfl (mv rfl rfl ?_));refine b_op rfl (qat rfl rfl rfl rfl (zai (qiV p0 x15.1 x17.1)) ?_);let E9:Nat × HV:=(98,.fn (.func 72) [] [.fptr [slE eStr x15.1] 0,gF p0,.fptr [slE eStr x17.1] 0]);let P5:ASf:=fun t H=>⟨(7,.fptr [hI p3] 0)::(8,.ptr 13008 v1 0)::(9,.ptr 13009 v2 0)::(16,.ptr 13016 v19 0)::t,H⟩;refine bf hK (P5 [E9] [O6,O7,O8]) ?_;refine zaf ?_;refine AW.to (qhM 13104 13016 v19 2 0 eStr.k 9 24 rfl rfl (by decide) fun v20=>?_);refine AW.to (qaZ (s':=(P5 [E9] [O6,O7,(13016,v19,.arr 2 24 [.ar 13104 v20 eStr.k 0 ((([]:List (List UInt8))).length),slE eStr x17.1]),(13104,v20,.arr eStr.k 9 (eStr.E ([]:List (List UInt8))))])) (zam ⟨rfl,rfl,rfl,rfl,rfl,trivial⟩ ⟨rfl,rfl,hle rfl (by first | rfl | simp only [List.length_set,qcS,qcq,List.length_reverse]),rfl,trivial⟩) ?_);obtain ⟨L21,h22,h⟩:=bS h;refine AW.rangeY (c:=.ret) 13900 (fun x=>[.str x]) h (by first | exact qa8 | exact qc3) rfl (qiy h22) (S:=(List (List UInt8))) (V:=Nat) (fun a v=>[(13008,v1,.arr 2 24 [.v (.slice none 0 0),.v (.slice none 0 0)]),(13009,v2,.arr 1 31 [hI 0]),(13016,v19,.arr 2 24 [.ar 13104 v eStr.k 0 ((a).length),slE eStr x17.1]),(13104,v,.arr eStr.k 9 (eStr.E a))]) v20 (X:=(List (List UInt8))) (W:=Nat) (fun a v=>[(13008,v1,.arr 2 24 [.ar 13104 v eStr.k 0 ((a).length),slE eStr x17.1]),(13009,v2,.arr 1 31 [hI 0]),(13104,v,.arr eStr.k 9 (eStr.E a))]) (fun _ _=>rfl) (fun _ _=>rfl) rfl (fun _=>rfl) (fun a31 w32 h=>?_) (fun a33 w34 h=>?_) (fun Lo l28 v26 a23 x25 w24 st27 h=>?_)
   ·refine zaa rfl fun K hK=>b_op rfl (qcC (cs:=[.v (.slice none 0 0),.v (.slice none 0 0)]) rfl (qfM ty24 rfl rfl rfl rfl) ?_)
    refine b_op rfl (qax (cs:=[.v (.slice none 0 0),.v (.slice none 0 0)]) (zs:=[.v (.slice none 0 0),.v (.slice none 0 0)]) rfl rfl rfl ty24 rfl rfl rfl rfl rfl ?_);refine b_op rfl (qax (cs:=[hI 15]) (zs:=[hI 15]) rfl rfl rfl ty31 rfl rfl rfl rfl rfl ?_);refine bf hK ⟨[(8,.ptr 13008 v1 0),(9,.ptr 13009 v2 0)],[O6,(13009,v2,.arr 1 31 [hI 15])]⟩ ?_;refine AW.to (qfq 13008 v1 (ds:=[slE eStr ([]:List (List UInt8)),slE eStr ([]:List (List UInt8))]) rfl (.cons (.nil _) <| .cons (.nil _) <| .nil) ?_);obtain rfl:=oi h;exact AW.ret (qae (.inr rfl) (resP ty24 rfl rfl (qao rfl (lb rfl) rfl) (resP ty31 rfl rfl (qaj rfl rfl) rfl)) rfl ⟨⟨(qar fun _ _=>⟨trivial,trivial⟩),(qar fun _ _=>⟨trivial,trivial⟩),trivial⟩,trivial,trivial⟩)
   ·refine AW.to (qoi 2 [(13104,w34,.arr eStr.k 9 (eStr.E a33))] ⟨[(8,.ptr 13008 v1 0),(9,.ptr 13009 v2 0)],[(13008,v1,.arr 2 24 [slE eStr a33,slE eStr x17.1]),O7]⟩ ⟨⟨_,rfl,rfl⟩,⟨_,rfl,rfl⟩,trivial⟩ ⟨.inr ⟨_,_,_,rfl,congrArg (AObj.arr 2 24) (congrArg (fun z:HV=>[z,slE eStr x17.1]) (qci eStr (D:=[(13104,w34,.arr eStr.k 9 (eStr.E a33))]) (l:=a33) rfl fun _ _=>rfl).symm)⟩,.inl rfl,trivial⟩ ⟨rfl,trivial⟩ ⟨rfl,trivial⟩ ?_)
    obtain rfl:=oi h;exact AW.ret (qae (.inr rfl) (resP ty24 rfl rfl (qao rfl (lb rfl) rfl) (resP ty31 rfl rfl (qaj rfl rfl) rfl)) rfl ⟨⟨(qar fun _ _=>⟨trivial,trivial⟩),(qar fun _ _=>⟨trivial,trivial⟩),trivial⟩,trivial,trivial⟩)
   refine zab rfl fun K hK=>mv rfl rfl ?_;refine qab (hK _ ?_);refine ⟨rfl,rfl,?_⟩;refine zaf ?_;refine zaa rfl fun K hK=>bv rfl (qal qdb rfl rfl) (bv rfl (qaf ty22 rfl rfl (qaj rfl rfl)) (mv rfl rfl ?_));refine b_op rfl (qdx rfl rfl (qdp (cs:=[.str x25]) ty22 ty9 rfl rfl rfl rfl rfl) ?_);obtain ⟨h30,h⟩:=ifN h;refine b_op rfl (qeF eStr (l:=a23) (m:=[x25]) rfl rfl ty22 ty22 ty9 rfl rfl rfl rfl rfl h30 (fun v29=>?_));refine bv rfl (qal qdb rfl rfl) ?_;refine b_op rfl (qax (cs:=[.ar 13104 v29 eStr.k 0 ((a23++[x25]).length)]) (zs:=[.ar 13104 v29 eStr.k 0 ((a23++[x25]).length),slE eStr x17.1]) rfl rfl rfl ty22 rfl rfl rfl rfl rfl ?_);let O10:Nat × Nat × AObj:=(13016,v19,.arr 2 24 [.ar 13104 v29 eStr.k 0 ((a23++[x25]).length),slE eStr x17.1]);let O11:Nat × Nat × AObj:=(13104,v29,.arr eStr.k 9 (eStr.E (a23++[x25])));refine bf hK (P5 [(99,.str x25)] [(13900,v26,Lo .busy none),O6,O7,O10,O11]) ?_;refine zaa rfl fun K hK=>bv rfl (qal qdb rfl rfl) (bv rfl (qaf ty22 rfl rfl (qaj rfl rfl)) (bv rfl (qeS rfl rfl ty22 rfl rfl) (bv rfl (qad ty3 rfl (qaj rfl rfl)) (bv rfl (qag rfl rfl qdT) ?_))));refine bf hK (P5 [(99,.str x25),(110,.bool (decide ((((a23++[x25]).length:Nat):Int)=p3)))] [(13900,v26,Lo .busy none),O6,O7,O10,O11]) ?_;refine zae rfl (fun hc=>?_) (fun hc=>?_)
   ·obtain ⟨hc,h⟩:=cT hc h
    refine zaa rfl fun K hK=>bv rfl (qaf ty24 rfl rfl (qao rfl (lb rfl) rfl)) ?_;refine b_op rfl (qax (cs:=[.ar 13104 v29 eStr.k 0 ((a23++[x25]).length),slE eStr x17.1]) (zs:=[.ar 13104 v29 eStr.k 0 ((a23++[x25]).length),slE eStr x17.1]) rfl rfl rfl ty24 rfl rfl rfl rfl rfl ?_);refine b_op rfl (qax (cs:=[hI 0]) (zs:=[hI 0]) rfl rfl rfl ty31 rfl rfl rfl rfl rfl ?_);refine bf hK ⟨[(8,.ptr 13008 v1 0),(9,.ptr 13009 v2 0)],[(13900,v26,Lo .busy none),(13008,v1,.arr 2 24 [.ar 13104 v29 eStr.k 0 ((a23++[x25]).length),slE eStr x17.1]),O7,O11]⟩ ?_;refine AW.ret ?_;exact ⟨rfl,a23++[x25],v29,h,(zam trivial ⟨rfl,rfl,rfl,rfl,trivial⟩)⟩
   obtain ⟨hc,h⟩:=cF hc h;refine zac ?_;exact ⟨a23++[x25],v29,h,(zam trivial ⟨rfl,rfl,rfl,rfl,rfl,trivial⟩)⟩
  refine zab rfl fun K hK=>mv rfl rfl (bv rfl (qag rfl rfl qaF) (mv rfl rfl ?_));by_cases hg39:p1<1
  ·have h:=ifT hg39 h
   refine b_F rfl rfl rfl rfl rfl (decide_eq_true hg39) ?_;refine b_F rfl rfl rfl rfl rfl rfl ?_;refine bv rfl (qan rfl rfl rfl) (mv rfl rfl ?_)
   iterate 2 refine b_F rfl rfl rfl rfl rfl rfl ?_
   refine bv rfl (qan rfl rfl rfl) (mv rfl rfl ?_)
   iterate 2 refine b_F rfl rfl rfl rfl rfl rfl ?_
   refine bv rfl (qan rfl rfl rfl) (mv rfl rfl ?_)
   iterate 2 refine b_F rfl rfl rfl rfl rfl rfl ?_
   refine bv rfl (qan rfl rfl rfl) (mv rfl rfl ?_)
   iterate 2 refine b_F rfl rfl rfl rfl rfl rfl ?_
   refine bv rfl (qan rfl rfl rfl) ?_;refine qab (hK _ ?_);exact to_L ⟨true,(),h,rfl⟩
  have h:=ifF hg39 h;refine b_T rfl rfl rfl rfl (decide_eq_false hg39) (qai rfl (qaE rfl rfl).2 ?_);refine b_T rfl rfl rfl rfl rfl (qai rfl (qag rfl rfl qbB) ?_);refine bv rfl (qau rfl rfl rfl) (mv rfl rfl ?_);by_cases hg38:16<p1
  ·have h:=ifT hg38 h
   refine b_F rfl rfl rfl rfl rfl (decide_eq_true hg38) ?_;refine b_F rfl rfl rfl rfl rfl rfl ?_;refine bv rfl (qan rfl rfl rfl) (mv rfl rfl ?_)
   iterate 2 refine b_F rfl rfl rfl rfl rfl rfl ?_
   refine bv rfl (qan rfl rfl rfl) (mv rfl rfl ?_)
   iterate 2 refine b_F rfl rfl rfl rfl rfl rfl ?_
   refine bv rfl (qan rfl rfl rfl) (mv rfl rfl ?_)
   iterate 2 refine b_F rfl rfl rfl rfl rfl rfl ?_
   refine bv rfl (qan rfl rfl rfl) ?_;refine qab (hK _ ?_);exact to_L ⟨true,(),h,rfl⟩
  have h:=ifF hg38 h;refine b_T rfl rfl rfl rfl (decide_eq_false hg38) (qai rfl (qaE rfl rfl).2 ?_);refine b_T rfl rfl rfl rfl rfl (qai rfl (qag rfl rfl qaF) ?_);refine bv rfl (qau rfl rfl rfl) (mv rfl rfl ?_);by_cases hg37:p2<0
  ·have h:=ifT hg37 h
   refine b_F rfl rfl rfl rfl rfl (decide_eq_true hg37) ?_;refine b_F rfl rfl rfl rfl rfl rfl ?_;refine bv rfl (qan rfl rfl rfl) (mv rfl rfl ?_)
   iterate 2 refine b_F rfl rfl rfl rfl rfl rfl ?_
   refine bv rfl (qan rfl rfl rfl) (mv rfl rfl ?_)
   iterate 2 refine b_F rfl rfl rfl rfl rfl rfl ?_
   refine bv rfl (qan rfl rfl rfl) ?_;refine qab (hK _ ?_);exact to_L ⟨true,(),h,rfl⟩
  have h:=ifF hg37 h;refine b_T rfl rfl rfl rfl (decide_eq_false hg37) (qai rfl (qaE rfl rfl).2 ?_);refine b_T rfl rfl rfl rfl rfl (qai rfl (qag rfl rfl qbB) ?_);refine bv rfl (qau rfl rfl rfl) (mv rfl rfl ?_);by_cases hg36:8<p2
  ·have h:=ifT hg36 h
   refine b_F rfl rfl rfl rfl rfl (decide_eq_true hg36) ?_;refine b_F rfl rfl rfl rfl rfl rfl ?_;refine bv rfl (qan rfl rfl rfl) (mv rfl rfl ?_)
   iterate 2 refine b_F rfl rfl rfl rfl rfl rfl ?_
   refine bv rfl (qan rfl rfl rfl) ?_;refine qab (hK _ ?_);exact to_L ⟨true,(),h,rfl⟩
  have h:=ifF hg36 h;refine b_T rfl rfl rfl rfl (decide_eq_false hg36) (qai rfl (qad ty3 rfl (qaj rfl rfl)) ?_);refine b_T rfl rfl rfl rfl rfl (qai rfl (qag rfl rfl qaF) ?_);refine bv rfl (qau rfl rfl rfl) (mv rfl rfl ?_);by_cases hg35:p3<1
  ·have h:=ifT hg35 h
   refine b_F rfl rfl rfl rfl rfl (decide_eq_true hg35) ?_;refine b_F rfl rfl rfl rfl rfl rfl ?_;refine bv rfl (qan rfl rfl rfl) ?_;refine qab (hK _ ?_);exact to_L ⟨true,(),h,rfl⟩
  have h:=ifF hg35 h;refine b_T rfl rfl rfl rfl (decide_eq_false hg35) (qai rfl (qad ty3 rfl (qaj rfl rfl)) ?_);refine b_T rfl rfl rfl rfl rfl (qai rfl (qag rfl rfl qbB) ?_);refine bv rfl (qau rfl rfl rfl) ?_;refine qab (hK _ ?_);exact to_L ⟨decide (256<p3),(),h,rfl⟩
 refine zab rfl fun K hK=>mv rfl rfl (bv rfl (qag rfl rfl qcv) (mv rfl rfl ?_));by_cases hg42:x5.2≠0
 ·have h:=ifT hg42 h
  refine b_F rfl rfl rfl rfl rfl (decide_eq_true hg42) ?_;refine b_F rfl rfl rfl rfl rfl rfl ?_;refine bv rfl (qan rfl rfl rfl) (mv rfl rfl ?_)
  iterate 2 refine b_F rfl rfl rfl rfl rfl rfl ?_
  refine bv rfl (qan rfl rfl rfl) (mv rfl rfl ?_)
  iterate 2 refine b_F rfl rfl rfl rfl rfl rfl ?_
  refine bv rfl (qan rfl rfl rfl) ?_;refine qab (hK _ ?_);exact to_L ⟨true,(),h,rfl⟩
 have h:=ifF hg42 h;refine b_T rfl rfl rfl rfl (decide_eq_false hg42) (qai rfl (qaE rfl rfl).2 ?_);refine b_T rfl rfl rfl rfl rfl (qai rfl (qag rfl rfl qcv) ?_);refine bv rfl (qau rfl rfl rfl) (mv rfl rfl ?_);by_cases hg41:x7.2≠0
 ·have h:=ifT hg41 h
  refine b_F rfl rfl rfl rfl rfl (decide_eq_true hg41) ?_;refine b_F rfl rfl rfl rfl rfl rfl ?_;refine bv rfl (qan rfl rfl rfl) (mv rfl rfl ?_)
  iterate 2 refine b_F rfl rfl rfl rfl rfl rfl ?_
  refine bv rfl (qan rfl rfl rfl) ?_;refine qab (hK _ ?_);exact to_L ⟨true,(),h,rfl⟩
 have h:=ifF hg41 h;refine b_T rfl rfl rfl rfl (decide_eq_false hg41) (qai rfl (qaE rfl rfl).2 ?_);refine b_T rfl rfl rfl rfl rfl (qai rfl (qdX rfl) ?_);refine bv rfl (qau rfl rfl rfl) (mv rfl rfl ?_);by_cases hg40:(!x5.1)=true
 ·have h:=ifT hg40 h
  refine b_F rfl rfl rfl rfl rfl hg40 ?_;refine b_F rfl rfl rfl rfl rfl rfl ?_;refine bv rfl (qan rfl rfl rfl) ?_;refine qab (hK _ ?_);exact to_L ⟨true,(),h,rfl⟩
 have h:=ifF hg40 h;refine b_T rfl rfl rfl rfl (bF hg40) (qai rfl (qaE rfl rfl).2 ?_);refine b_T rfl rfl rfl rfl rfl (qai rfl (qdX rfl) ?_);refine bv rfl (qau rfl rfl rfl) ?_;refine qab (hK _ ?_);exact to_L ⟨!x7.1,(),h,rfl⟩
theorem qim {p0:qaa} {p1:Int} {p2:Int} {p3:Int} {p4:List (Int)} {r:Bool} (h:qdr p0 p1 p2 p3 p4=some r):Pure Tryz.prog 4 [gA p0,.int .u8 p1,.int .u8 p2,.int .u8 p3,slE eU8 p4] (· = HV.bool r):=by
 unfold qdr at h;refine zaj Tryz.func4 rfl rfl (lb rfl) fun hf=>?_;unfold Tryz.f4;dsimp only [qaL,Nat.reduceAdd];refine zaa rfl fun K hK=>b_op rfl (qbh rfl rfl rfl ?_);refine mv rfl rfl ?_;let P1:ASf:=fun t H=>⟨(1,.int .u8 p1)::(2,.int .u8 p2)::(3,.int .u8 p3)::(4,slE eU8 p4)::(5,gF p0)::t,H⟩;refine bf hK (P1 [] []) ?_;refine zad ?_;refine zaa rfl fun K hK=>bv rfl (qad ty27 rfl (qao rfl (lb rfl) rfl)) ?_;obtain ⟨x1,h2,h⟩:=bS h;refine b_op rfl (qat rfl rfl rfl rfl (zai (qkm h2)) ?_);refine bf hK (P1 [(33,.bool x1)] []) ?_;refine zae rfl (fun hc=>?_) (fun hc=>?_)
 ·have h:=ifT hc h
  refine zaa rfl fun K hK=>?_;obtain ⟨x3,h4,h⟩:=bS h;refine b_op rfl (qat rfl rfl rfl rfl (zai (qb8 h4)) ?_);refine mv rfl rfl ?_;refine bf hK ⟨[(10,.bool x3)],[]⟩ ?_;obtain rfl:=oi h;exact AW.ret (qae (.inr rfl) (resT rfl rfl) rfl trivial)
 have h:=ifF (bF' hc) h;refine zac ?_;refine zaa rfl fun K hK=>mv rfl rfl (bv rfl (qko ty5 ty3 rfl) (bv rfl (qag rfl rfl (qpj (by decide))) (bv rfl (qag rfl rfl qaX) (mv rfl rfl (bv rfl (qko ty5 ty3 rfl) ?_)))));refine bv rfl (qag rfl rfl (qpj (by decide))) (mv rfl rfl (bv rfl (qko ty5 ty3 rfl) (bv rfl (qag rfl rfl (qpj (by decide))) (bv rfl (qag rfl rfl qaX) (mv rfl rfl ?_)))));refine mv rfl rfl (mv rfl rfl ?_);let E1:Nat × HV:=(13,hI (IntKind.wrap .i64 ((Int.tmod (IntKind.wrap .i64 p3) 6)+1)));let P2:ASf:=fun t H=>⟨(4,slE eU8 p4)::(5,gF p0)::t,H⟩;refine bf hK (P2 [(11,hI (IntKind.wrap .i64 ((Int.tmod (IntKind.wrap .i64 p1) 5)+1))),(12,hI (Int.tmod (IntKind.wrap .i64 p2) 4)),E1] []) ?_;refine zaa rfl fun K hK=>bv rfl (qad ty27 rfl (qao rfl (lb rfl) rfl)) (mv rfl rfl (mv rfl rfl (mv rfl rfl ?_)));obtain ⟨x5,h6,h⟩:=bS h;refine b_op rfl (qat rfl rfl rfl rfl (zai (qiW h6)) ?_);refine mv rfl rfl (bv rfl (qak rfl rfl) (bv rfl (qak rfl rfl) ?_));refine b_op rfl (qaC (fid:=4) (zs:=[.v (.slice none 0 0),.v (.slice none 0 0)]) 4014 rfl rfl ty24 rfl (fun v7=>?_));refine b_op rfl (qax (cs:=[slE eStr x5.1.1,slE eStr x5.1.2]) (zs:=[slE eStr x5.1.1,slE eStr x5.1.2]) rfl rfl rfl ty24 rfl rfl rfl rfl rfl ?_);refine mv rfl rfl ?_;let O2:Nat × Nat × AObj:=(4014,v7,.arr 2 24 [slE eStr x5.1.1,slE eStr x5.1.2]);refine bf hK (P2 [E1,(14,.ptr 4014 v7 0),(15,hI x5.2)] [O2]) ?_;refine zad ?_;refine zaa rfl fun K hK=>mv rfl rfl (bv rfl (qag rfl rfl qcv) ?_);refine bf hK (P2 [E1,(14,.ptr 4014 v7 0),(55,.bool (decide (x5.2≠0)))] [O2]) ?_;refine zae rfl (fun hc=>?_) (fun hc=>?_)
 ·obtain ⟨hc,h⟩:=cT hc h
  refine zaa rfl fun K hK=>?_;obtain ⟨x8,h9,h⟩:=bS h;refine b_op rfl (qat rfl rfl rfl rfl (zai (qb8 h9)) ?_);refine mv rfl rfl ?_;refine bf hK ⟨[(10,.bool x8)],[]⟩ ?_;obtain rfl:=oi h;exact AW.ret (qae (.inr rfl) (resT rfl rfl) rfl trivial)
 obtain ⟨hc,h⟩:=cF hc h;refine zac ?_;refine zaa rfl fun K hK=>mv rfl rfl ?_;refine bf hK (P2 [E1,(14,.ptr 4014 v7 0),(16,.v (.slice none 0 0))] [O2]) ?_;refine zad ?_;refine zaa rfl fun K hK=>mv rfl rfl (mv rfl rfl (bv rfl (qav rfl rfl ty28 rfl) (bv rfl (qr2 rfl rfl rfl) ?_)));obtain ⟨h10,h⟩:=ifN h;refine bv rfl (qep eU8 ty28 es28 rfl rfl rfl h10) (bv rfl (qav rfl rfl ty28 rfl) (mv rfl rfl ?_));let E3:Nat × HV:=(61,slE eU8 ((p4.take (min ((p4).length:Int) 8).toNat).drop (0:Int).toNat));let E4:Nat × HV:=(62,hI (((p4.take (min ((p4).length:Int) 8).toNat).drop (0:Int).toNat).length:Int));let P3:ASf:=fun t H=>⟨(5,gF p0)::t,O2::H⟩;refine bf hK (P3 [E1,(14,.ptr 4014 v7 0),(16,.v (.slice none 0 0)),E3,E4,(63,hI 0)] []) ?_;refine AW.lpX h (by first | exact qa8 | exact qc3) (S:=Int × (List Int)) (V:=Nat) (fun a v=>(P3 [E1,(14,.ptr 4014 v7 0),(16,.ar 4073 v eInt.k 0 ((a.2).length)),E3,E4,(63,hI a.1)] [(4073,v,.arr eInt.k 3 (eInt.E a.2))])) ?_ (X:=(List Int)) (W:=Nat) (fun a v=>(P3 [(14,.ptr 4014 v7 0),(16,.ar 4073 v eInt.k 0 ((a).length))] [(4073,v,.arr eInt.k 3 (eInt.E a))])) (fun a21 w22 h=>?_) (fun a11 w12 st13 h=>?_)
 ·refine qeE (qha 4073 16 eInt.k 3 rfl fun v20=>?_)
  exact qaZ (s':=(P3 [E1,(14,.ptr 4014 v7 0),(16,.ar 4073 v20 eInt.k 0 ((([]:List Int)).length)),E3,E4,(63,hI 0)] [(4073,v20,.arr eInt.k 3 (eInt.E ([]:List Int)))])) (zam ⟨rfl,rfl,rfl,arl (by first | rfl | simp only [List.length_set,qcS,qcq,List.length_reverse]),rfl,rfl,rfl,trivial⟩ ⟨rfl,rfl,trivial⟩) ⟨v20,rfl⟩
 ·refine zaa rfl fun K hK=>bv rfl (qaf ty24 rfl rfl (qao rfl (lb rfl) rfl)) (bv rfl (qad ty27 rfl (qao rfl (lb rfl) rfl)) (mv rfl rfl ?_))
  obtain ⟨x23,h24,h⟩:=bS h;refine b_op rfl (qat rfl rfl rfl rfl (((qfO h24).fresh (by simp only [clean,qeo,and_self]) rfl).callD 2 (mc rfl (mc rfl (mc (qci eInt (l:=a21) rfl fun _ _=>rfl) rfl)))) ?_);refine mv rfl rfl (bv rfl (qak rfl rfl) (bv rfl (qak rfl rfl) (mv rfl rfl (mv rfl rfl ?_))));let E5:Nat × HV:=(16,.ar 4073 w22 eInt.k 0 ((a21).length));let O6:Nat × Nat × AObj:=(4073,w22,.arr eInt.k 3 (eInt.E a21));refine bf hK (P3 [(14,.ptr 4014 v7 0),E5,(19,.str x23.1),(20,hI x23.2)] [O6]) ?_;refine zad ?_;refine zaa rfl fun K hK=>mv rfl rfl (bv rfl (qag rfl rfl qcv) ?_);refine bf hK (P3 [(14,.ptr 4014 v7 0),E5,(19,.str x23.1),(20,hI x23.2),(83,.bool (decide (x23.2≠0)))] [O6]) ?_;refine zae rfl (fun hc=>?_) (fun hc=>?_)
  ·obtain ⟨hc,h⟩:=cT hc h
   refine zag h (S:=Bool) (V:=Unit) (fun a v=>⟨[(10,.bool a)],[]⟩) (fun a25 w26 h=>?_) (fun k27 h=>?_)
   ·obtain rfl:=oi h
    exact AW.ret (qae (.inr rfl) (resT rfl rfl) rfl trivial)
   refine zab rfl fun K hK=>mv rfl rfl (bv rfl (qag rfl rfl qdT) (mv rfl rfl ?_));by_cases hg31:x23.2=13
   ·have h:=ifT hg31 h
    refine b_T rfl rfl rfl rfl (decide_eq_true hg31) (qai rfl (qaE rfl rfl).2 ?_);refine b_T rfl rfl rfl rfl rfl (qai rfl (qeS rfl rfl ty36 rfl rfl) ?_);refine b_T rfl rfl rfl rfl rfl (qai rfl (qag rfl rfl qbB) ?_);refine bv rfl (qan rfl rfl rfl) (mv rfl rfl ?_);by_cases hg30:2<(((a21).length:Nat):Int)
    ·have h:=ifT hg30 h
     obtain ⟨x28,h29,h⟩:=bS h;refine b_T rfl rfl rfl rfl (decide_eq_true hg30) (qat rfl rfl rfl rfl (zai (qb8 h29)) ?_);refine bv rfl (qan rfl rfl rfl) (mv rfl rfl ?_);refine qab (hK _ ?_);exact to_L ⟨x28,(),h,rfl⟩
    have h:=ifF hg30 h;refine b_F rfl rfl rfl rfl rfl (decide_eq_false hg30) ?_;refine bv rfl (qau rfl rfl rfl) (mv rfl rfl ?_);refine qab (hK _ ?_);exact to_L ⟨false,(),h,rfl⟩
   have h:=ifF hg31 h;refine b_F rfl rfl rfl rfl rfl (decide_eq_false hg31) ?_
   iterate 2 refine b_F rfl rfl rfl rfl rfl rfl ?_
   refine bv rfl (qau rfl rfl rfl) (mv rfl rfl ?_);refine b_F rfl rfl rfl rfl rfl rfl ?_;refine bv rfl (qau rfl rfl rfl) (mv rfl rfl ?_);refine qab (hK _ ?_);exact to_L ⟨false,(),h,rfl⟩
  obtain ⟨hc,h⟩:=cF hc h;refine zac ?_;refine zaa rfl fun K hK=>bv rfl (qad ty27 rfl (qao rfl (lb rfl) rfl)) (mv rfl rfl ?_);obtain ⟨x32,h33,h⟩:=bS h;refine b_op rfl (qat rfl rfl rfl rfl (zai (qeR h33)) ?_);refine mv rfl rfl (bv rfl (qak rfl rfl) (bv rfl (qak rfl rfl) (mv rfl rfl (mv rfl rfl ?_))));refine bf hK (P3 [(14,.ptr 4014 v7 0),E5,(19,.str x23.1),(21,.bool x32.1),(22,hI x32.2)] [O6]) ?_;refine zaa rfl fun K hK=>bv rfl (qaf ty24 rfl rfl (qao rfl (lb rfl) rfl)) (mv rfl rfl ?_);obtain ⟨x34,h35,h⟩:=bS h;refine b_op rfl (qat rfl rfl rfl rfl (zai (qip h35)) ?_);refine mv rfl rfl (bv rfl (qak rfl rfl) (bv rfl (qak rfl rfl) (mv rfl rfl (mv rfl rfl ?_))));refine bf hK (P3 [(14,.ptr 4014 v7 0),E5,(19,.str x23.1),(21,.bool x32.1),(22,hI x32.2),(23,slE eInt x34.1),(24,hI x34.2)] [O6]) ?_;refine zad ?_;refine zag h (S:=Bool) (V:=Unit) (fun a v=>(P3 [(14,.ptr 4014 v7 0),E5,(19,.str x23.1),(125,.bool a)] [O6])) (fun a36 w37 h=>?_) (fun k38 h=>?_)
  ·refine zae rfl (fun hc=>?_) (fun hc=>?_)
   ·have h:=ifT hc h
    refine zaa rfl fun K hK=>mv rfl rfl ?_;refine bf hK ⟨[(10,.bool false)],[]⟩ ?_;obtain rfl:=oi h;exact AW.ret (qae (.inr rfl) (resT rfl rfl) rfl trivial)
   have h:=ifF (bF' hc) h;refine zac ?_;refine zad ?_;refine zag h (S:=Bool) (V:=Unit) (fun a v=>(P3 [(14,.ptr 4014 v7 0),E5,(19,.str x23.1),(134,.bool a)] [O6])) (fun a39 w40 h=>?_) (fun k41 h=>?_)
   ·refine zae rfl (fun hc=>?_) (fun hc=>?_)
    ·have h:=ifT hc h
     refine zaa rfl fun K hK=>?_;obtain ⟨x42,h43,h⟩:=bS h;refine b_op rfl (qat rfl rfl rfl rfl (zai (qb8 h43)) ?_);refine mv rfl rfl ?_;refine bf hK ⟨[(10,.bool x42)],[]⟩ ?_;obtain rfl:=oi h;exact AW.ret (qae (.inr rfl) (resT rfl rfl) rfl trivial)
    have h:=ifF (bF' hc) h;refine zac ?_;refine zaQ follows fun K hK F hF=>?_;obtain ⟨h440801,h⟩:=ifN h;refine l_go (L':=[]) hF rfl (s':=(P3 [(14,.ptr 4014 v7 0),E5,(19,.str x23.1)] [O6])) ?_ (le_q rfl rfl)
    have g44_21:∀ (v441001:Nat),F [0,1,2,3,4,5,6,7,8,9,10,11] (P3 [E5,(19,.str x23.1),(25,.ptr 4025 v441001 0)] [O6,(4025,v441001,.arr 2 24 [slE eStr x5.1.1,slE eStr ((x5.1.2.take (IntKind.wrap .i64 (((x5.1.2).length:Int) - 1)).toNat).drop (0:Int).toNat)])]):=by
     intro v441001;let O7:Nat × Nat × AObj:=(4025,v441001,.arr 2 24 [slE eStr x5.1.1,slE eStr ((x5.1.2.take (IntKind.wrap .i64 (((x5.1.2).length:Int) - 1)).toNat).drop (0:Int).toNat)]);let P4:ASf:=fun t H=>⟨(5,gF p0)::E5::(19,.str x23.1)::(25,.ptr 4025 v441001 0)::t,O6::O7::H⟩;refine qig hF rfl rfl (hK _ (AW.to (qaZ (s':=(P4 [] [])) (le_q rfl rfl) ?_)));refine zad ?_;refine zaa rfl fun K hK=>bv rfl (qaf ty24 rfl rfl (qao rfl (lb rfl) rfl)) (bv rfl (qad ty27 rfl (qao rfl (lb rfl) rfl)) ?_);obtain ⟨x45,h46,h⟩:=bS h;refine b_op rfl (qat rfl rfl rfl rfl (zai (qfZ h46)) ?_);refine bv rfl (qag rfl rfl qcv) ?_;refine bf hK (P4 [(149,.bool (decide (x45≠0)))] []) ?_;refine zae rfl (fun hc=>?_) (fun hc=>?_)
     ·obtain ⟨hc,h⟩:=cT hc h
      refine zaa rfl fun K hK=>?_;obtain ⟨x47,h48,h⟩:=bS h;refine b_op rfl (qat rfl rfl rfl rfl (zai (qb8 h48)) ?_);refine mv rfl rfl ?_;refine bf hK ⟨[(10,.bool x47)],[]⟩ ?_;obtain rfl:=oi h;exact AW.ret (qae (.inr rfl) (resT rfl rfl) rfl trivial)
     obtain ⟨hc,h⟩:=cF hc h;refine zac ?_;refine zaa rfl fun K hK=>bv rfl (qaf ty24 rfl rfl (qao rfl (lb rfl) rfl)) (bv rfl (qad ty27 rfl (qao rfl (lb rfl) rfl)) (mv rfl rfl ?_));obtain ⟨x49,h50,h⟩:=bS h;refine b_op rfl (qat rfl rfl rfl rfl (((qfO h50).fresh (by simp only [clean,qeo,and_self]) rfl).callD 2 (mc rfl (mc rfl (mc (qci eInt (l:=a21) rfl fun _ _=>rfl) rfl)))) ?_);refine mv rfl rfl (bv rfl (qak rfl rfl) (bv rfl (qak rfl rfl) (mv rfl rfl (mv rfl rfl ?_))));refine bf hK ⟨[(19,.str x23.1),(26,.str x49.1),(27,hI x49.2)],[]⟩ ?_;refine zaa rfl fun K hK=>mv rfl rfl ?_;obtain ⟨x51,h52,h⟩:=bS h;refine b_op rfl (qat rfl rfl rfl rfl (zai (qeh h52)) ?_);refine mv rfl rfl (bv rfl (qak rfl rfl) (bv rfl (qak rfl rfl) (mv rfl rfl (mv rfl rfl ?_))));refine bf hK ⟨[(26,.str x49.1),(27,hI x49.2),(28,hI x51.1),(29,hI x51.2)],[]⟩ ?_;refine zaa rfl fun K hK=>mv rfl rfl ?_;obtain ⟨x53,h54,h⟩:=bS h;refine b_op rfl (qat rfl rfl rfl rfl (zai (qeh h54)) ?_);refine mv rfl rfl (bv rfl (qak rfl rfl) (bv rfl (qak rfl rfl) (mv rfl rfl (mv rfl rfl ?_))));refine bf hK ⟨[(27,hI x49.2),(28,hI x51.1),(29,hI x51.2),(30,hI x53.1),(31,hI x53.2)],[]⟩ ?_;refine zag h (S:=Bool) (V:=Unit) (fun a v=>⟨[(10,.bool a)],[]⟩) (fun a55 w56 h=>?_) (fun k57 h=>?_)
     ·obtain rfl:=oi h
      exact AW.ret (qae (.inr rfl) (resT rfl rfl) rfl trivial)
     refine zab rfl fun K hK=>mv rfl rfl (mv rfl rfl (mv rfl rfl (bv rfl (qr3 rfl rfl rfl rfl) (bv rfl (qag rfl rfl qdT) (mv rfl rfl ?_)))));by_cases hg61:(max (max x49.2 x51.2) x53.2)=0
     ·have h:=ifT hg61 h
      refine b_T rfl rfl rfl rfl (decide_eq_true hg61) (qai rfl (qaE rfl rfl).2 ?_);refine b_T rfl rfl rfl rfl rfl (qai rfl (qaE rfl rfl).2 ?_);refine b_T rfl rfl rfl rfl rfl (qai rfl (qrg rfl) ?_);refine b_T rfl rfl rfl rfl rfl (qai rfl (qk2 rfl rfl rfl) ?_)
      iterate 2 refine b_T rfl rfl rfl rfl rfl (qai rfl (qaE rfl rfl).2 ?_)
      refine b_T rfl rfl rfl rfl rfl (qai rfl (qrg rfl) ?_);refine b_T rfl rfl rfl rfl rfl (qai rfl (qk2 rfl rfl rfl) ?_);refine b_T rfl rfl rfl rfl rfl (qai rfl (qag rfl rfl qnZ) ?_);refine bv rfl (qan rfl rfl rfl) (mv rfl rfl ?_);by_cases hg60:(max x51.1 (IntKind.wrap .i64 (0 - x51.1)))≤(max x53.1 (IntKind.wrap .i64 (0 - x53.1)))
      ·have h:=ifT hg60 h
       obtain ⟨x58,h59,h⟩:=bS h;refine b_T rfl rfl rfl rfl (decide_eq_true hg60) (qat rfl rfl rfl rfl (zai (qb8 h59)) ?_);refine bv rfl (qan rfl rfl rfl) (mv rfl rfl ?_);refine qab (hK _ ?_);exact to_L ⟨x58,(),h,rfl⟩
      have h:=ifF hg60 h;refine b_F rfl rfl rfl rfl rfl (decide_eq_false hg60) ?_;refine bv rfl (qau rfl rfl rfl) (mv rfl rfl ?_);refine qab (hK _ ?_);exact to_L ⟨false,(),h,rfl⟩
     have h:=ifF hg61 h;refine b_F rfl rfl rfl rfl rfl (decide_eq_false hg61) ?_
     iterate 8 refine b_F rfl rfl rfl rfl rfl rfl ?_
     refine bv rfl (qau rfl rfl rfl) (mv rfl rfl ?_);refine b_F rfl rfl rfl rfl rfl rfl ?_;refine bv rfl (qau rfl rfl rfl) (mv rfl rfl ?_);refine qab (hK _ ?_);exact to_L ⟨false,(),h,rfl⟩
    let P:ASf:=fun t H=>⟨(5,gF p0)::(16,.ar 4073 w22 eInt.k 0 ((a21).length))::(19,.str x23.1)::t,(4014,v7,.arr 2 24 [slE eStr x5.1.1,slE eStr x5.1.2])::(4073,w22,.arr eInt.k 3 (eInt.E a21))::H⟩
    have g44_20:∀ (v441001:Nat),F [0,1,2,3,4,5,6,7,8,9,10] (P [(25,.ptr 4025 v441001 0),(145,.agg [slE eStr x5.1.1,slE eStr ((x5.1.2.take (IntKind.wrap .i64 (((x5.1.2).length:Int) - 1)).toNat).drop (0:Int).toNat)])] [(4025,v441001,.arr 2 24 [.v (.slice none 0 0),.v (.slice none 0 0)])]):=by
     intro v441001;refine qaT hF rfl [11] rfl rfl ⟨?_,trivial⟩;refine l_op rfl rfl rfl (qax (cs:=[slE eStr x5.1.1,slE eStr ((x5.1.2.take (IntKind.wrap .i64 (((x5.1.2).length:Int) - 1)).toNat).drop (0:Int).toNat)]) (zs:=[slE eStr x5.1.1,slE eStr ((x5.1.2.take (IntKind.wrap .i64 (((x5.1.2).length:Int) - 1)).toNat).drop (0:Int).toNat)]) rfl rfl rfl ty24 rfl rfl rfl rfl rfl ?_);exact qab (lg hF (g44_21 v441001))
    have g44_19:∀ (v441001:Nat),F [0,1,2,3,4,5,6,7,8,10] (P [(25,.ptr 4025 v441001 0),(137,slE eStr x5.1.1),(144,slE eStr ((x5.1.2.take (IntKind.wrap .i64 (((x5.1.2).length:Int) - 1)).toNat).drop (0:Int).toNat))] [(4025,v441001,.arr 2 24 [.v (.slice none 0 0),.v (.slice none 0 0)])]):=by
     intro v441001;refine qaT hF rfl [9] rfl rfl ⟨?_,trivial⟩;refine l_op rfl rfl rfl (qcC (cs:=[slE eStr x5.1.1,slE eStr ((x5.1.2.take (IntKind.wrap .i64 (((x5.1.2).length:Int) - 1)).toNat).drop (0:Int).toNat)]) rfl (qfM ty24 rfl rfl rfl rfl) ?_);exact qab (lg hF (g44_20 v441001))
    have g44_36:F [0,1,2,3,4,5,6,7,8,9] (P [(145,.agg [slE eStr x5.1.1,slE eStr ((x5.1.2.take (IntKind.wrap .i64 (((x5.1.2).length:Int) - 1)).toNat).drop (0:Int).toNat)])] []):=by
     refine qaT hF rfl [10] rfl rfl ⟨?_,trivial⟩;refine l_op rfl rfl rfl (qaC (fid:=4) (zs:=[.v (.slice none 0 0),.v (.slice none 0 0)]) 4025 rfl rfl ty24 rfl (fun v441001=>?_));exact qab (lg hF (g44_20 v441001))
    have g44_17:∀ (v441001:Nat),F [0,1,2,3,4,5,6,7,10] (P [(25,.ptr 4025 v441001 0),(137,slE eStr x5.1.1),(139,slE eStr x5.1.2),(143,hI (IntKind.wrap .i64 (((x5.1.2).length:Int) - 1)))] [(4025,v441001,.arr 2 24 [.v (.slice none 0 0),.v (.slice none 0 0)])]):=by
     intro v441001;refine qaT hF rfl [8] rfl rfl ⟨?_,trivial⟩;exact l_ov rfl rfl rfl rfl (qep eStr ty22 es22 rfl rfl rfl h440801) (lg hF (g44_19 v441001))
    have g44_18:∀ (v441001:Nat),F [0,2,3,4,5,6,7,8,10] (P [(25,.ptr 4025 v441001 0),(136,.ptr 4014 v7 0),(144,slE eStr ((x5.1.2.take (IntKind.wrap .i64 (((x5.1.2).length:Int) - 1)).toNat).drop (0:Int).toNat))] [(4025,v441001,.arr 2 24 [.v (.slice none 0 0),.v (.slice none 0 0)])]):=by
     intro v441001;refine qaT hF rfl [1] rfl rfl ⟨?_,trivial⟩;exact l_ov rfl rfl rfl rfl (qaf ty22 rfl rfl (qaj rfl rfl)) (lg hF (g44_19 v441001))
    have g44_35:F [0,1,2,3,4,5,6,7,8] (P [(137,slE eStr x5.1.1),(144,slE eStr ((x5.1.2.take (IntKind.wrap .i64 (((x5.1.2).length:Int) - 1)).toNat).drop (0:Int).toNat))] []):=by
     refine qaT hF rfl [9,10] rfl rfl ⟨?_,?_,trivial⟩
     ·refine l_op rfl rfl rfl (qcC (cs:=[slE eStr x5.1.1,slE eStr ((x5.1.2.take (IntKind.wrap .i64 (((x5.1.2).length:Int) - 1)).toNat).drop (0:Int).toNat)]) rfl (qfM ty24 rfl rfl rfl rfl) ?_)
      exact qab (lg hF (g44_36))
     refine l_op rfl rfl rfl (qaC (fid:=4) (zs:=[.v (.slice none 0 0),.v (.slice none 0 0)]) 4025 rfl rfl ty24 rfl (fun v441001=>?_));exact qab (lg hF (g44_19 v441001))
    have g44_15:∀ (v441001:Nat),F [0,1,2,4,5,6,7,10] (P [(25,.ptr 4025 v441001 0),(137,slE eStr x5.1.1),(138,.ptr 4014 v7 1),(143,hI (IntKind.wrap .i64 (((x5.1.2).length:Int) - 1)))] [(4025,v441001,.arr 2 24 [.v (.slice none 0 0),.v (.slice none 0 0)])]):=by
     intro v441001;refine qaT hF rfl [3] rfl rfl ⟨?_,trivial⟩;exact l_ov rfl rfl rfl rfl (qaf ty22 rfl rfl (qaj rfl rfl)) (lg hF (g44_17 v441001))
    have g44_16:∀ (v441001:Nat),F [0,2,3,4,5,6,7,10] (P [(25,.ptr 4025 v441001 0),(136,.ptr 4014 v7 0),(139,slE eStr x5.1.2),(143,hI (IntKind.wrap .i64 (((x5.1.2).length:Int) - 1)))] [(4025,v441001,.arr 2 24 [.v (.slice none 0 0),.v (.slice none 0 0)])]):=by
     intro v441001;refine qaT hF rfl [1,8] rfl rfl ⟨?_,?_,trivial⟩
     ·exact l_ov rfl rfl rfl rfl (qaf ty22 rfl rfl (qaj rfl rfl)) (lg hF (g44_17 v441001))
     exact l_ov rfl rfl rfl rfl (qep eStr ty22 es22 rfl rfl rfl h440801) (lg hF (g44_18 v441001))
    have g44_24:∀ (v441001:Nat),F [0,1,2,3,4,5,6,10] (P [(25,.ptr 4025 v441001 0),(137,slE eStr x5.1.1),(139,slE eStr x5.1.2),(142,hI ((x5.1.2).length:Int))] [(4025,v441001,.arr 2 24 [.v (.slice none 0 0),.v (.slice none 0 0)])]):=by
     intro v441001;refine qbO (i:=7) hF rfl rfl rfl (qgJ rfl rfl rfl qfX rfl) ?_;exact lg hF (g44_17 v441001)
    have g44_33:F [0,1,2,3,4,5,6,7] (P [(137,slE eStr x5.1.1),(139,slE eStr x5.1.2),(143,hI (IntKind.wrap .i64 (((x5.1.2).length:Int) - 1)))] []):=by
     refine qaT hF rfl [8,10] rfl rfl ⟨?_,?_,trivial⟩
     ·exact l_ov rfl rfl rfl rfl (qep eStr ty22 es22 rfl rfl rfl h440801) (lg hF (g44_35))
     refine l_op rfl rfl rfl (qaC (fid:=4) (zs:=[.v (.slice none 0 0),.v (.slice none 0 0)]) 4025 rfl rfl ty24 rfl (fun v441001=>?_));exact qab (lg hF (g44_17 v441001))
    have g44_34:F [0,2,3,4,5,6,7,8] (P [(136,.ptr 4014 v7 0),(144,slE eStr ((x5.1.2.take (IntKind.wrap .i64 (((x5.1.2).length:Int) - 1)).toNat).drop (0:Int).toNat))] []):=by
     refine qaT hF rfl [1,10] rfl rfl ⟨?_,?_,trivial⟩
     ·exact l_ov rfl rfl rfl rfl (qaf ty22 rfl rfl (qaj rfl rfl)) (lg hF (g44_35))
     refine l_op rfl rfl rfl (qaC (fid:=4) (zs:=[.v (.slice none 0 0),.v (.slice none 0 0)]) 4025 rfl rfl ty24 rfl (fun v441001=>?_));exact qab (lg hF (g44_18 v441001))
    have g44_14:∀ (v441001:Nat),F [0,2,4,5,6,7,10] (P [(25,.ptr 4025 v441001 0),(136,.ptr 4014 v7 0),(138,.ptr 4014 v7 1),(143,hI (IntKind.wrap .i64 (((x5.1.2).length:Int) - 1)))] [(4025,v441001,.arr 2 24 [.v (.slice none 0 0),.v (.slice none 0 0)])]):=by
     intro v441001;refine qaT hF rfl [1,3] rfl rfl ⟨?_,?_,trivial⟩
     ·exact l_ov rfl rfl rfl rfl (qaf ty22 rfl rfl (qaj rfl rfl)) (lg hF (g44_15 v441001))
     exact l_ov rfl rfl rfl rfl (qaf ty22 rfl rfl (qaj rfl rfl)) (lg hF (g44_16 v441001))
    have g44_22:∀ (v441001:Nat),F [0,1,2,3,4,5,10] (P [(25,.ptr 4025 v441001 0),(137,slE eStr x5.1.1),(139,slE eStr x5.1.2),(141,slE eStr x5.1.2)] [(4025,v441001,.arr 2 24 [.v (.slice none 0 0),.v (.slice none 0 0)])]):=by
     intro v441001;refine qaT hF rfl [6] rfl rfl ⟨?_,trivial⟩;exact l_ov rfl rfl rfl rfl (qav rfl rfl ty22 rfl) (lg hF (g44_24 v441001))
    have g44_23:∀ (v441001:Nat),F [0,2,3,4,5,6,10] (P [(25,.ptr 4025 v441001 0),(136,.ptr 4014 v7 0),(139,slE eStr x5.1.2),(142,hI ((x5.1.2).length:Int))] [(4025,v441001,.arr 2 24 [.v (.slice none 0 0),.v (.slice none 0 0)])]):=by
     intro v441001;refine qbO (i:=7) hF rfl rfl rfl (qgJ rfl rfl rfl qfX rfl) ?_;exact lg hF (g44_16 v441001)
    have g44_25:∀ (v441001:Nat),F [0,1,2,4,5,6,10] (P [(25,.ptr 4025 v441001 0),(137,slE eStr x5.1.1),(138,.ptr 4014 v7 1),(142,hI ((x5.1.2).length:Int))] [(4025,v441001,.arr 2 24 [.v (.slice none 0 0),.v (.slice none 0 0)])]):=by
     intro v441001;refine qbO (i:=7) hF rfl rfl rfl (qgJ rfl rfl rfl qfX rfl) ?_;exact lg hF (g44_15 v441001)
    have g44_31:F [0,1,2,4,5,6,7] (P [(137,slE eStr x5.1.1),(138,.ptr 4014 v7 1),(143,hI (IntKind.wrap .i64 (((x5.1.2).length:Int) - 1)))] []):=by
     refine qaT hF rfl [3,10] rfl rfl ⟨?_,?_,trivial⟩
     ·exact l_ov rfl rfl rfl rfl (qaf ty22 rfl rfl (qaj rfl rfl)) (lg hF (g44_33))
     refine l_op rfl rfl rfl (qaC (fid:=4) (zs:=[.v (.slice none 0 0),.v (.slice none 0 0)]) 4025 rfl rfl ty24 rfl (fun v441001=>?_));exact qab (lg hF (g44_15 v441001))
    have g44_32:F [0,2,3,4,5,6,7] (P [(136,.ptr 4014 v7 0),(139,slE eStr x5.1.2),(143,hI (IntKind.wrap .i64 (((x5.1.2).length:Int) - 1)))] []):=by
     refine qaT hF rfl [1,8,10] rfl rfl ⟨?_,?_,?_,trivial⟩
     ·exact l_ov rfl rfl rfl rfl (qaf ty22 rfl rfl (qaj rfl rfl)) (lg hF (g44_33))
     ·exact l_ov rfl rfl rfl rfl (qep eStr ty22 es22 rfl rfl rfl h440801) (lg hF (g44_34))
     refine l_op rfl rfl rfl (qaC (fid:=4) (zs:=[.v (.slice none 0 0),.v (.slice none 0 0)]) 4025 rfl rfl ty24 rfl (fun v441001=>?_));exact qab (lg hF (g44_16 v441001))
    have g44_39:F [0,1,2,3,4,5,6] (P [(137,slE eStr x5.1.1),(139,slE eStr x5.1.2),(142,hI ((x5.1.2).length:Int))] []):=by
     refine qbO (i:=7) hF rfl rfl rfl (qgJ rfl rfl rfl qfX rfl) ?_;exact lg hF (g44_33)
    have g44_11:∀ (v441001:Nat),F [0,1,2,4,5,10] (P [(25,.ptr 4025 v441001 0),(137,slE eStr x5.1.1),(138,.ptr 4014 v7 1),(141,slE eStr x5.1.2)] [(4025,v441001,.arr 2 24 [.v (.slice none 0 0),.v (.slice none 0 0)])]):=by
     intro v441001;refine qaT hF rfl [3,6] rfl rfl ⟨?_,?_,trivial⟩
     ·exact l_ov rfl rfl rfl rfl (qaf ty22 rfl rfl (qaj rfl rfl)) (lg hF (g44_22 v441001))
     exact l_ov rfl rfl rfl rfl (qav rfl rfl ty22 rfl) (lg hF (g44_25 v441001))
    have g44_12:∀ (v441001:Nat),F [0,2,3,4,5,10] (P [(25,.ptr 4025 v441001 0),(136,.ptr 4014 v7 0),(139,slE eStr x5.1.2),(141,slE eStr x5.1.2)] [(4025,v441001,.arr 2 24 [.v (.slice none 0 0),.v (.slice none 0 0)])]):=by
     intro v441001;refine qaT hF rfl [1,6] rfl rfl ⟨?_,?_,trivial⟩
     ·exact l_ov rfl rfl rfl rfl (qaf ty22 rfl rfl (qaj rfl rfl)) (lg hF (g44_22 v441001))
     exact l_ov rfl rfl rfl rfl (qav rfl rfl ty22 rfl) (lg hF (g44_23 v441001))
    have g44_13:∀ (v441001:Nat),F [0,2,4,5,6,10] (P [(25,.ptr 4025 v441001 0),(136,.ptr 4014 v7 0),(138,.ptr 4014 v7 1),(142,hI ((x5.1.2).length:Int))] [(4025,v441001,.arr 2 24 [.v (.slice none 0 0),.v (.slice none 0 0)])]):=by
     intro v441001;refine qbO (i:=7) hF rfl rfl rfl (qgJ rfl rfl rfl qfX rfl) ?_;exact lg hF (g44_14 v441001)
    have g44_26:∀ (v441001:Nat),F [0,1,2,3,4,10] (P [(25,.ptr 4025 v441001 0),(137,slE eStr x5.1.1),(139,slE eStr x5.1.2),(140,.ptr 4014 v7 1)] [(4025,v441001,.arr 2 24 [.v (.slice none 0 0),.v (.slice none 0 0)])]):=by
     intro v441001;refine qaT hF rfl [5] rfl rfl ⟨?_,trivial⟩;exact l_ov rfl rfl rfl rfl (qaf ty22 rfl rfl (qaj rfl rfl)) (lg hF (g44_22 v441001))
    have g44_30:F [0,2,4,5,6,7] (P [(136,.ptr 4014 v7 0),(138,.ptr 4014 v7 1),(143,hI (IntKind.wrap .i64 (((x5.1.2).length:Int) - 1)))] []):=by
     refine qaT hF rfl [1,3,10] rfl rfl ⟨?_,?_,?_,trivial⟩
     ·exact l_ov rfl rfl rfl rfl (qaf ty22 rfl rfl (qaj rfl rfl)) (lg hF (g44_31))
     ·exact l_ov rfl rfl rfl rfl (qaf ty22 rfl rfl (qaj rfl rfl)) (lg hF (g44_32))
     refine l_op rfl rfl rfl (qaC (fid:=4) (zs:=[.v (.slice none 0 0),.v (.slice none 0 0)]) 4025 rfl rfl ty24 rfl (fun v441001=>?_));exact qab (lg hF (g44_14 v441001))
    have g44_37:F [0,1,2,3,4,5] (P [(137,slE eStr x5.1.1),(139,slE eStr x5.1.2),(141,slE eStr x5.1.2)] []):=by
     refine qaT hF rfl [6,10] rfl rfl ⟨?_,?_,trivial⟩
     ·exact l_ov rfl rfl rfl rfl (qav rfl rfl ty22 rfl) (lg hF (g44_39))
     refine l_op rfl rfl rfl (qaC (fid:=4) (zs:=[.v (.slice none 0 0),.v (.slice none 0 0)]) 4025 rfl rfl ty24 rfl (fun v441001=>?_));exact qab (lg hF (g44_22 v441001))
    have g44_38:F [0,2,3,4,5,6] (P [(136,.ptr 4014 v7 0),(139,slE eStr x5.1.2),(142,hI ((x5.1.2).length:Int))] []):=by
     refine qbO (i:=7) hF rfl rfl rfl (qgJ rfl rfl rfl qfX rfl) ?_;exact lg hF (g44_32)
    have g44_40:F [0,1,2,4,5,6] (P [(137,slE eStr x5.1.1),(138,.ptr 4014 v7 1),(142,hI ((x5.1.2).length:Int))] []):=by
     refine qbO (i:=7) hF rfl rfl rfl (qgJ rfl rfl rfl qfX rfl) ?_;exact lg hF (g44_31)
    have g44_8:∀ (v441001:Nat),F [0,1,2,4,10] (P [(25,.ptr 4025 v441001 0),(137,slE eStr x5.1.1),(138,.ptr 4014 v7 1),(140,.ptr 4014 v7 1)] [(4025,v441001,.arr 2 24 [.v (.slice none 0 0),.v (.slice none 0 0)])]):=by
     intro v441001;refine qaT hF rfl [3,5] rfl rfl ⟨?_,?_,trivial⟩
     ·exact l_ov rfl rfl rfl rfl (qaf ty22 rfl rfl (qaj rfl rfl)) (lg hF (g44_26 v441001))
     exact l_ov rfl rfl rfl rfl (qaf ty22 rfl rfl (qaj rfl rfl)) (lg hF (g44_11 v441001))
    have g44_9:∀ (v441001:Nat),F [0,2,3,4,10] (P [(25,.ptr 4025 v441001 0),(136,.ptr 4014 v7 0),(139,slE eStr x5.1.2),(140,.ptr 4014 v7 1)] [(4025,v441001,.arr 2 24 [.v (.slice none 0 0),.v (.slice none 0 0)])]):=by
     intro v441001;refine qaT hF rfl [1,5] rfl rfl ⟨?_,?_,trivial⟩
     ·exact l_ov rfl rfl rfl rfl (qaf ty22 rfl rfl (qaj rfl rfl)) (lg hF (g44_26 v441001))
     exact l_ov rfl rfl rfl rfl (qaf ty22 rfl rfl (qaj rfl rfl)) (lg hF (g44_12 v441001))
    have g44_10:∀ (v441001:Nat),F [0,2,4,5,10] (P [(25,.ptr 4025 v441001 0),(136,.ptr 4014 v7 0),(138,.ptr 4014 v7 1),(141,slE eStr x5.1.2)] [(4025,v441001,.arr 2 24 [.v (.slice none 0 0),.v (.slice none 0 0)])]):=by
     intro v441001;refine qaT hF rfl [1,3,6] rfl rfl ⟨?_,?_,?_,trivial⟩
     ·exact l_ov rfl rfl rfl rfl (qaf ty22 rfl rfl (qaj rfl rfl)) (lg hF (g44_11 v441001))
     ·exact l_ov rfl rfl rfl rfl (qaf ty22 rfl rfl (qaj rfl rfl)) (lg hF (g44_12 v441001))
     exact l_ov rfl rfl rfl rfl (qav rfl rfl ty22 rfl) (lg hF (g44_13 v441001))
    have g44_27:F [0,1,2,4,5] (P [(137,slE eStr x5.1.1),(138,.ptr 4014 v7 1),(141,slE eStr x5.1.2)] []):=by
     refine qaT hF rfl [3,6,10] rfl rfl ⟨?_,?_,?_,trivial⟩
     ·exact l_ov rfl rfl rfl rfl (qaf ty22 rfl rfl (qaj rfl rfl)) (lg hF (g44_37))
     ·exact l_ov rfl rfl rfl rfl (qav rfl rfl ty22 rfl) (lg hF (g44_40))
     refine l_op rfl rfl rfl (qaC (fid:=4) (zs:=[.v (.slice none 0 0),.v (.slice none 0 0)]) 4025 rfl rfl ty24 rfl (fun v441001=>?_));exact qab (lg hF (g44_11 v441001))
    have g44_28:F [0,2,3,4,5] (P [(136,.ptr 4014 v7 0),(139,slE eStr x5.1.2),(141,slE eStr x5.1.2)] []):=by
     refine qaT hF rfl [1,6,10] rfl rfl ⟨?_,?_,?_,trivial⟩
     ·exact l_ov rfl rfl rfl rfl (qaf ty22 rfl rfl (qaj rfl rfl)) (lg hF (g44_37))
     ·exact l_ov rfl rfl rfl rfl (qav rfl rfl ty22 rfl) (lg hF (g44_38))
     refine l_op rfl rfl rfl (qaC (fid:=4) (zs:=[.v (.slice none 0 0),.v (.slice none 0 0)]) 4025 rfl rfl ty24 rfl (fun v441001=>?_));exact qab (lg hF (g44_12 v441001))
    have g44_29:F [0,2,4,5,6] (P [(136,.ptr 4014 v7 0),(138,.ptr 4014 v7 1),(142,hI ((x5.1.2).length:Int))] []):=by
     refine qbO (i:=7) hF rfl rfl rfl (qgJ rfl rfl rfl qfX rfl) ?_;exact lg hF (g44_30)
    have g44_41:F [0,1,2,3,4] (P [(137,slE eStr x5.1.1),(139,slE eStr x5.1.2),(140,.ptr 4014 v7 1)] []):=by
     refine qaT hF rfl [5,10] rfl rfl ⟨?_,?_,trivial⟩
     ·exact l_ov rfl rfl rfl rfl (qaf ty22 rfl rfl (qaj rfl rfl)) (lg hF (g44_37))
     refine l_op rfl rfl rfl (qaC (fid:=4) (zs:=[.v (.slice none 0 0),.v (.slice none 0 0)]) 4025 rfl rfl ty24 rfl (fun v441001=>?_));exact qab (lg hF (g44_26 v441001))
    have g44_4:F [0,1,2,4] (P [(137,slE eStr x5.1.1),(138,.ptr 4014 v7 1),(140,.ptr 4014 v7 1)] []):=by
     refine qaT hF rfl [3,5,10] rfl rfl ⟨?_,?_,?_,trivial⟩
     ·exact l_ov rfl rfl rfl rfl (qaf ty22 rfl rfl (qaj rfl rfl)) (lg hF (g44_41))
     ·exact l_ov rfl rfl rfl rfl (qaf ty22 rfl rfl (qaj rfl rfl)) (lg hF (g44_27))
     refine l_op rfl rfl rfl (qaC (fid:=4) (zs:=[.v (.slice none 0 0),.v (.slice none 0 0)]) 4025 rfl rfl ty24 rfl (fun v441001=>?_));exact qab (lg hF (g44_8 v441001))
    have g44_5:F [0,2,3,4] (P [(136,.ptr 4014 v7 0),(139,slE eStr x5.1.2),(140,.ptr 4014 v7 1)] []):=by
     refine qaT hF rfl [1,5,10] rfl rfl ⟨?_,?_,?_,trivial⟩
     ·exact l_ov rfl rfl rfl rfl (qaf ty22 rfl rfl (qaj rfl rfl)) (lg hF (g44_41))
     ·exact l_ov rfl rfl rfl rfl (qaf ty22 rfl rfl (qaj rfl rfl)) (lg hF (g44_28))
     refine l_op rfl rfl rfl (qaC (fid:=4) (zs:=[.v (.slice none 0 0),.v (.slice none 0 0)]) 4025 rfl rfl ty24 rfl (fun v441001=>?_));exact qab (lg hF (g44_9 v441001))
    have g44_6:F [0,2,4,5] (P [(136,.ptr 4014 v7 0),(138,.ptr 4014 v7 1),(141,slE eStr x5.1.2)] []):=by
     refine qaT hF rfl [1,3,6,10] rfl rfl ⟨?_,?_,?_,?_,trivial⟩
     ·exact l_ov rfl rfl rfl rfl (qaf ty22 rfl rfl (qaj rfl rfl)) (lg hF (g44_27))
     ·exact l_ov rfl rfl rfl rfl (qaf ty22 rfl rfl (qaj rfl rfl)) (lg hF (g44_28))
     ·exact l_ov rfl rfl rfl rfl (qav rfl rfl ty22 rfl) (lg hF (g44_29))
     refine l_op rfl rfl rfl (qaC (fid:=4) (zs:=[.v (.slice none 0 0),.v (.slice none 0 0)]) 4025 rfl rfl ty24 rfl (fun v441001=>?_));exact qab (lg hF (g44_10 v441001))
    have g44_7:∀ (v441001:Nat),F [0,2,4,10] (P [(25,.ptr 4025 v441001 0),(136,.ptr 4014 v7 0),(138,.ptr 4014 v7 1),(140,.ptr 4014 v7 1)] [(4025,v441001,.arr 2 24 [.v (.slice none 0 0),.v (.slice none 0 0)])]):=by
     intro v441001;refine qaT hF rfl [1,3,5] rfl rfl ⟨?_,?_,?_,trivial⟩
     ·exact l_ov rfl rfl rfl rfl (qaf ty22 rfl rfl (qaj rfl rfl)) (lg hF (g44_8 v441001))
     ·exact l_ov rfl rfl rfl rfl (qaf ty22 rfl rfl (qaj rfl rfl)) (lg hF (g44_9 v441001))
     exact l_ov rfl rfl rfl rfl (qaf ty22 rfl rfl (qaj rfl rfl)) (lg hF (g44_10 v441001))
    have g44_3:F [0,2,4] (P [(136,.ptr 4014 v7 0),(138,.ptr 4014 v7 1),(140,.ptr 4014 v7 1)] []):=by
     refine qaT hF rfl [1,3,5,10] rfl rfl ⟨?_,?_,?_,?_,trivial⟩
     ·exact l_ov rfl rfl rfl rfl (qaf ty22 rfl rfl (qaj rfl rfl)) (lg hF (g44_4))
     ·exact l_ov rfl rfl rfl rfl (qaf ty22 rfl rfl (qaj rfl rfl)) (lg hF (g44_5))
     ·exact l_ov rfl rfl rfl rfl (qaf ty22 rfl rfl (qaj rfl rfl)) (lg hF (g44_6))
     refine l_op rfl rfl rfl (qaC (fid:=4) (zs:=[.v (.slice none 0 0),.v (.slice none 0 0)]) 4025 rfl rfl ty24 rfl (fun v441001=>?_));exact qab (lg hF (g44_7 v441001))
    have g44_2:F [0,2] (P3 [(14,.ptr 4014 v7 0),E5,(19,.str x23.1),(136,.ptr 4014 v7 0),(138,.ptr 4014 v7 1)] [O6]):=by
     refine qfR (i:=4) hF rfl rfl rfl (qal qe0 rfl rfl) ?_;exact lg hF (g44_3)
    have g44_1:F [0] (P3 [(14,.ptr 4014 v7 0),E5,(19,.str x23.1),(136,.ptr 4014 v7 0)] [O6]):=by
     refine qfR (i:=2) hF rfl rfl rfl (qal qe0 rfl rfl) ?_;exact lg hF (g44_2)
    have g44_0:F [] (P3 [(14,.ptr 4014 v7 0),E5,(19,.str x23.1)] [O6]):=by
     refine qfR (i:=0) hF rfl rfl rfl (qal qdb rfl rfl) ?_;exact lg hF (g44_1)
    exact g44_0
   refine zab rfl fun K hK=>mv rfl rfl (bv rfl (qeS rfl rfl ty36 rfl rfl) (bv rfl (qag rfl rfl qcv) (mv rfl rfl ?_)));by_cases hg62:(((a21).length:Nat):Int)≠2
   ·have h:=ifT hg62 h
    refine b_F rfl rfl rfl rfl rfl (decide_eq_true hg62) ?_
    iterate 3 refine b_F rfl rfl rfl rfl rfl rfl ?_
    refine bv rfl (qan rfl rfl rfl) ?_;refine qab (hK _ ?_);exact to_L ⟨true,(),h,rfl⟩
   have h:=ifF hg62 h;refine b_T rfl rfl rfl rfl (decide_eq_false hg62) (qai rfl (qal qe0 rfl rfl) ?_);refine b_T rfl rfl rfl rfl rfl (qai rfl (qaf ty22 rfl rfl (qaj rfl rfl)) ?_);refine b_T rfl rfl rfl rfl rfl (qai rfl (qav rfl rfl ty22 rfl) ?_);refine b_T rfl rfl rfl rfl rfl (qai rfl (qag rfl rfl qaF) ?_);refine bv rfl (qau rfl rfl rfl) ?_;refine qab (hK _ ?_);exact to_L ⟨decide (((x5.1.2).length:Int)<2),(),h,rfl⟩
  refine zab rfl fun K hK=>mv rfl rfl (bv rfl (qag rfl rfl qcv) (mv rfl rfl ?_));by_cases hg70:x32.2≠0
  ·have h:=ifT hg70 h
   refine b_F rfl rfl rfl rfl rfl (decide_eq_true hg70) ?_;refine b_F rfl rfl rfl rfl rfl rfl ?_;refine bv rfl (qan rfl rfl rfl) (mv rfl rfl ?_)
   iterate 3 refine b_F rfl rfl rfl rfl rfl rfl ?_
   refine b_U rfl rfl rfl rfl rfl ?_;refine b_U rfl rfl rfl rfl rfl ?_;refine b_F rfl rfl rfl rfl rfl rfl ?_;refine bv rfl (qan rfl rfl rfl) (mv rfl rfl ?_)
   iterate 4 refine b_F rfl rfl rfl rfl rfl rfl ?_
   refine bv rfl (qan rfl rfl rfl) ?_;refine qab (hK _ ?_);exact to_L ⟨true,(),h,rfl⟩
  have h:=ifF hg70 h;refine b_T rfl rfl rfl rfl (decide_eq_false hg70) (qai rfl (qaE rfl rfl).2 ?_);refine b_T rfl rfl rfl rfl rfl (qai rfl (qag rfl rfl qcv) ?_);refine bv rfl (qau rfl rfl rfl) (mv rfl rfl ?_);by_cases hg69:x34.2≠0
  ·have h:=ifT hg69 h
   refine b_F rfl rfl rfl rfl rfl (decide_eq_true hg69) ?_
   iterate 2 refine b_F rfl rfl rfl rfl rfl rfl ?_
   refine b_U rfl rfl rfl rfl rfl ?_;refine b_U rfl rfl rfl rfl rfl ?_;refine b_F rfl rfl rfl rfl rfl rfl ?_;refine bv rfl (qan rfl rfl rfl) (mv rfl rfl ?_)
   iterate 4 refine b_F rfl rfl rfl rfl rfl rfl ?_
   refine bv rfl (qan rfl rfl rfl) ?_;refine qab (hK _ ?_);exact to_L ⟨true,(),h,rfl⟩
  have h:=ifF hg69 h;refine b_T rfl rfl rfl rfl (decide_eq_false hg69) (qai rfl (qaE rfl rfl).2 ?_);refine b_T rfl rfl rfl rfl rfl (qai rfl (qdX rfl) ?_);refine b_T rfl rfl rfl rfl rfl (qai rfl (qaE rfl rfl).2 ?_);by_cases hg68:(!x32.1)=true
  ·have h:=ifT hg68 h
   refine b_T rfl rfl rfl rfl hg68 (qai rfl (qaE rfl rfl).2 ?_);refine b_T rfl rfl rfl rfl rfl (qai rfl (qag rfl rfl qpi) ?_);refine b_T rfl rfl rfl rfl rfl (qai rfl (qan rfl rfl rfl) ?_);refine bv rfl (qau rfl rfl rfl) (mv rfl rfl ?_);by_cases hg65:x23.1≠nS
   ·have h:=ifT hg65 h
    refine b_F rfl rfl rfl rfl rfl (decide_eq_true hg65) ?_
    iterate 3 refine b_F rfl rfl rfl rfl rfl rfl ?_
    refine bv rfl (qan rfl rfl rfl) ?_;refine qab (hK _ ?_);exact to_L ⟨true,(),h,rfl⟩
   have h:=ifF hg65 h;refine b_T rfl rfl rfl rfl (decide_eq_false hg65) (qai rfl (qaE rfl rfl).2 ?_);refine b_T rfl rfl rfl rfl rfl (qai rfl (qaE rfl rfl).2 ?_);obtain ⟨x63,h64,h⟩:=bS h;refine b_T rfl rfl rfl rfl rfl (qat rfl rfl rfl rfl (((qdL h64).fresh (by simp only [clean,qeo,and_self]) rfl).callD 2 (mc rfl (mc (qci eInt (l:=a21) rfl fun _ _=>rfl) rfl))) ?_);refine b_T rfl rfl rfl rfl rfl (qai rfl (qdX rfl) ?_);refine bv rfl (qau rfl rfl rfl) ?_;refine qab (hK _ ?_);exact to_L ⟨!x63,(),h,rfl⟩
  have h:=ifF hg68 h;refine b_F rfl rfl rfl rfl rfl (bF hg68) ?_;refine b_F rfl rfl rfl rfl rfl rfl ?_;refine b_T rfl rfl rfl rfl rfl (qai rfl (qau rfl rfl rfl) ?_);refine bv rfl (qau rfl rfl rfl) (mv rfl rfl ?_)
  iterate 2 refine b_T rfl rfl rfl rfl rfl (qai rfl (qaE rfl rfl).2 ?_)
  obtain ⟨x66,h67,h⟩:=bS h;refine b_T rfl rfl rfl rfl rfl (qat rfl rfl rfl rfl (((qdL h67).fresh (by simp only [clean,qeo,and_self]) rfl).callD 2 (mc rfl (mc (qci eInt (l:=a21) rfl fun _ _=>rfl) rfl))) ?_);refine b_T rfl rfl rfl rfl rfl (qai rfl (qdX rfl) ?_);refine bv rfl (qau rfl rfl rfl) ?_;refine qab (hK _ ?_);exact to_L ⟨!x66,(),h,rfl⟩
 refine zaa rfl fun K hK=>bv rfl (qag rfl rfl qaF) ?_;refine bf hK (P3 [E1,(14,.ptr 4014 v7 0),(16,.ar 4073 w12 eInt.k 0 ((a11.2).length)),E3,E4,(63,hI a11.1),(64,.bool (decide (a11.1<(((p4.take (min ((p4).length:Int) 8).toNat).drop (0:Int).toNat).length:Int))))] [(4073,w12,.arr eInt.k 3 (eInt.E a11.2))]) ?_;refine zak rfl (fun hc=>?_) (fun hc=>?_)
 ·obtain ⟨hc,h⟩:=cT hc h
  refine zac ?_;refine zad (zaf ?_);refine zaa rfl fun K hK=>?_;obtain ⟨x15,h16,h⟩:=bS h;refine bv rfl (qaI ty28 es28 rfl rfl (qay h16)) (bv rfl (qad ty5 rfl (qaW eU8 h16 (o:=0) rfl rfl)) (mv rfl rfl ?_));refine bf hK (P3 [E1,(14,.ptr 4014 v7 0),(16,.ar 4073 w12 eInt.k 0 ((a11.2).length)),(18,.int .u8 x15),E3,E4,(63,hI a11.1)] [(4073,w12,.arr eInt.k 3 (eInt.E a11.2))]) ?_;refine zab rfl fun K hK=>mv rfl rfl (mv rfl rfl (bv rfl (qko ty5 ty3 rfl) (mv rfl rfl ?_)));obtain ⟨h17,h⟩:=ifN h;refine bv rfl (qag rfl rfl (qpj h17)) ?_;refine b_op rfl (qdx rfl rfl (qdp (cs:=[hI (Int.tmod (IntKind.wrap .i64 x15) (IntKind.wrap .i64 ((Int.tmod (IntKind.wrap .i64 p3) 6)+1)))]) ty36 ty3 rfl rfl rfl rfl rfl) ?_);obtain ⟨h19,h⟩:=ifN h;refine b_op rfl (qeF eInt (l:=a11.2) (m:=[Int.tmod (IntKind.wrap .i64 x15) (IntKind.wrap .i64 ((Int.tmod (IntKind.wrap .i64 p3) 6)+1))]) rfl rfl ty36 ty36 ty3 rfl rfl rfl rfl rfl h19 (fun v18=>?_));refine mv rfl rfl ?_;refine bf hK (P3 [E1,(14,.ptr 4014 v7 0),(16,.ar 4073 v18 eInt.k 0 ((a11.2++[Int.tmod (IntKind.wrap .i64 x15) (IntKind.wrap .i64 ((Int.tmod (IntKind.wrap .i64 p3) 6)+1))]).length)),E3,E4,(63,hI a11.1)] [(4073,v18,.arr eInt.k 3 (eInt.E (a11.2++[Int.tmod (IntKind.wrap .i64 x15) (IntKind.wrap .i64 ((Int.tmod (IntKind.wrap .i64 p3) 6)+1))])))]) ?_;refine zab rfl fun K hK=>bv rfl (qag rfl rfl qaX) (mv rfl rfl ?_);refine qab (hK _ ?_);exact to_L ⟨(IntKind.wrap .i64 (a11.1+1),a11.2++[Int.tmod (IntKind.wrap .i64 x15) (IntKind.wrap .i64 ((Int.tmod (IntKind.wrap .i64 p3) 6)+1))]),v18,h,rfl⟩
 obtain ⟨hc,h⟩:=cF hc h;refine AW.exit ?_;exact to_L ⟨a11.2,w12,h,rfl⟩
end Go.AW

namespace Go.AW
open Go
theorem qnv {l:List (List UInt8)} {x:List UInt8} (hm:l.length≤9223372036854775807):qaA l x=some (qe1 l fun y=>decide (x=y)):=by
 unfold qaA;refine lpE (qhS (fun i=>(i:Int)) l (fun y=>decide (x=y)) (fun i=>Ou.ret (i:Int)) (Ou.go ()) (fun i hi=>?_) (by rw [if_neg (qaB _)]) rfl) ?_
 ·rw [if_pos (qbJ hi),ix hi]
  simp only [Option.bind_some,nx hm hi,decide_eq_true_eq]
 unfold qe1
 split <;> rfl
theorem qmB {l:List (List UInt8)} {x:List UInt8} (hm:l.length≤9223372036854775807):qaz l x=some (decide (x∈l)):=by
 unfold qaz;rw [qnv hm];simp only [Option.bind_some,qhu]
 congr 1
 exact decide_eq_decide.2 (by simp [List.any_eq_true])
theorem hdl2 (l:List (List UInt8)):(l.headD []).length=qam l:=id rfl
def sub (w:List UInt8) (a l:Nat):List UInt8:=(w.drop a).take l
def qgb (j:Jn) (w:List UInt8) (t:Nat):List UInt8:=sub w (t*(qam j.1+qam j.2)) (qam j.1)
def qic (j:Jn) (w:List UInt8) (t:Nat):List UInt8:=sub w (t*(qam j.1+qam j.2) - qam j.2) (qam j.2)
def badT (j:Jn) (w:List UInt8) (t:Nat):Bool:=decide (0<t∧qic j w t ∉ j.2) || decide (qgb j w t ∉ j.1)
def outT (j:Jn) (w:List UInt8) (t:Nat):List Int:=(List.range t).map fun i=>qe1 j.1 fun y=>decide (qgb j w i=y)
theorem qoA (j:Jn) (w:List UInt8) (t:Nat):outT j w (t+1)=outT j w t++[qe1 j.1 fun y=>decide (qgb j w t=y)]:=by
 simp [outT,List.range_succ]
theorem qmQ (j:Jn) (w:List UInt8) (t:Nat):(outT j w t).length=t:=by simp [outT]
def kW (j:Jn) (w:List UInt8):Nat:=(w.length+qam j.2) / (qam j.1+qam j.2)
def decE (j:Jn) (w:List UInt8):List Int × Int :=
 if qgi j≠0 then ([],1) else if w=[] then ([],0) else if (w.length+qam j.2) % (qam j.1+qam j.2)≠0 then ([],11)
 else match fstN (X:=Ou (List Int) (List Int × Int)) (badT j w) (fun _=>Ou.ret ([],13)) (Ou.go (outT j w (kW j w))) (kW j w) 0 with
  | .go l=>(l,0)
  | .ret r=>r
theorem qlA {l:List (List UInt8)} {x:List UInt8}:(qe1 l fun y=>decide (x=y))<0↔x ∉ l:=by
 have:=qhu (l:=l) (P:=fun y=>decide (x=y));simp only [List.any_eq_true,decide_eq_true_eq,exists_eq_right'] at this;rw [← this];omega
theorem qpD {j : Jn} (hs:SmJ j) {w:List UInt8} (hw:w.length≤1000000):qcI j w=some (decE j w):=by
  unfold qcI decE;rw [qo4 hs];simp only [Option.bind_some];by_cases hf:qgi j≠0
  · rw [if_pos (show qgi j≠0 from hf),if_pos (show qgi j≠0 from hf)]
  rw [if_neg hf,if_neg hf];have hf:=Classical.not_not.1 hf;have hj:=qhW hf;by_cases h0:w=[]
  · rw [if_pos h0,if_pos h0]
  rw [if_neg h0,if_neg h0,idx0 hj.ne1,idx0 hj.ne2];simp only [Option.bind_some,hdl2];have n1:=hj.n1;have n16:=hj.n16;have r16:=hj.r16;have l1:=hj.l1;have l2:=hj.l2;have hw0:0<w.length:=List.length_pos_iff.2 h0
  have e1:IntKind.wrap .i64 (((qam j.1:Nat):Int)+((qam j.2:Nat):Int))=((qam j.1+qam j.2:Nat):Int):=by rw [w64 (by omega) (by omega)]; omega
  have e2:IntKind.wrap .i64 (((w.length:Nat):Int)+((qam j.2:Nat):Int))=((w.length+qam j.2:Nat):Int):=by rw [w64 (by omega) (by omega)]; omega
  simp only [e1,e2];rw [if_pos (by omega)];simp only [← Int.ofNat_tmod];by_cases hd:(w.length+qam j.2) % (qam j.1+qam j.2)≠0
  · rw [if_pos (show (((w.length+qam j.2) % (qam j.1+qam j.2):Nat):Int)≠0 by omega),if_pos hd]
  rw [if_neg (show ¬ ((((w.length+qam j.2) % (qam j.1+qam j.2):Nat):Int)≠0) by omega),if_neg hd];have hd:=Classical.not_not.1 hd
  have hk:w.length+qam j.2=kW j w*(qam j.1+qam j.2):=by
    have:=Nat.div_add_mod (w.length+qam j.2) (qam j.1+qam j.2);rw [hd,Nat.add_zero,Nat.mul_comm] at this;exact this.symm
  generalize hK:kW j w=K at hk ⊢
  have hP:0<qam j.1+qam j.2:=by omega
  have ht:∀ t,t<K→t*(qam j.1+qam j.2)+(qam j.1+qam j.2)≤w.length+qam j.2:=fun t htK=>by
    rw [hk,← Nat.succ_mul]; exact Nat.mul_le_mul_right _ htK
  refine lpE (qiO (fun t=>(w.drop (t*(qam j.1+qam j.2) - qam j.2),outT j w t)) K (badT j w) (fun _=>Ou.ret ([],13)) (Ou.go (outT j w K)) (fun t htK=>?_) ?_ (by simp [outT])) ?_
  · have h1 := ht t htK
    have htl:t≤t*(qam j.1+qam j.2):=Nat.le_mul_of_pos_right t hP;have hlen:(w.drop (t*(qam j.1+qam j.2) - qam j.2)).length=w.length - (t*(qam j.1+qam j.2) - qam j.2):=List.length_drop;simp only [jp];rw [if_pos (by intro he; rw [he,List.length_nil] at hlen; omega)];simp only [qmQ]
    have tail : ∀ v:List UInt8,v=w.drop (t*(qam j.1+qam j.2))→(decide (0<t∧qic j w t ∉ j.2))=false →
        (if 0 ≤ (0:Int)∧(0:Int)≤((qam j.1:Nat):Int)∧((qam j.1:Nat):Int)≤(v.length:Int) then
             (qaA j.1 ((v.take (((qam j.1:Nat):Int)).toNat).drop (0:Int).toNat)).bind fun x16 =>
             if x16<0 then
              some (Stp.exit (Ou.ret ([],13)))
             else
              if fits 8 (t+([x16]).length) then
               if 0≤(((qam j.1:Nat):Int):Int)∧(((qam j.1:Nat):Int):Int)≤((v).length:Int)∧((v).length:Int)≤(v.length:Int) then
                some (Stp.next ((v.take (((v).length:Int)).toNat).drop (((qam j.1:Nat):Int)).toNat,outT j w t++[x16]))
               else none
              else none
            else none)=(if badT j w t=true then some (Stp.exit (Ou.ret ([],13))) else some (Stp.next (w.drop ((t+1)*(qam j.1+qam j.2) - qam j.2),outT j w (t+1))):Option (Stp (List UInt8 × List Int) (Ou (List Int) (List Int × Int)))):=by
      intro v hv hb
      have hvl:v.length=w.length - t*(qam j.1+qam j.2):=by rw [hv]; exact List.length_drop
      rw [if_pos ⟨by omega,by omega,by omega⟩,qnv (by omega)]
      have ep:(v.take (((qam j.1:Nat):Int)).toNat).drop (0:Int).toNat=qgb j w t:=by
        simp only [Int.toNat_natCast,Int.toNat_zero,List.drop_zero,hv,qgb,sub]
      rw [ep];simp only [Option.bind_some,badT,hb,Bool.false_or,decide_eq_true_eq];by_cases hm:qgb j w t∈j.1
      · rw [if_neg (show ¬ ((qe1 j.1 fun y=>decide (qgb j w t=y))<0) by rw [qlA]; exact fun h=>h hm),if_neg (show ¬ (qgb j w t ∉ j.1) from fun h=>h hm),if_pos (qdz (by simp only [List.length_singleton]; omega) (by simp only [List.length_singleton]; omega)),if_pos ⟨by omega,by omega,by omega⟩,qoA]
        have e3:(v.take ((v.length:Int)).toNat).drop (((qam j.1:Nat):Int)).toNat=w.drop ((t+1)*(qam j.1+qam j.2) - qam j.2):=by
          rw [Int.toNat_natCast,Int.toNat_natCast,List.take_length,hv,List.drop_drop,Nat.succ_mul]
          congr 1
          omega
        rw [e3]
      rw [if_pos (qlA.2 hm),if_pos hm]
    by_cases h0t:0<t
    · have hmul:qam j.1+qam j.2≤t*(qam j.1+qam j.2):=Nat.le_mul_of_pos_left _ h0t
      rw [if_pos (by omega),if_pos ⟨by omega,by omega,by omega⟩,qmB (by omega)]
      have ep:((w.drop (t*(qam j.1+qam j.2) - qam j.2)).take (((qam j.2:Nat):Int)).toNat).drop (0:Int).toNat=qic j w t:=by
        simp only [Int.toNat_natCast,Int.toNat_zero,List.drop_zero,qic,sub]
      rw [ep];simp only [Option.bind_some];by_cases hm:qic j w t∈j.2
      · rw [if_neg (by simp [hm]),if_pos ⟨by omega,by omega,by omega⟩]
        refine tail _ ?_ (by simp [hm]);rw [Int.toNat_natCast,Int.toNat_natCast,List.take_length,List.drop_drop]
        congr 1
        omega
      rw [if_pos (by simp [hm]),if_pos (by simp [badT,hm,h0t])]
    have:t=0:=by omega
    subst this;rw [if_neg (by omega)];refine tail _ ?_ (by simp);simp
  · have:w.drop (K*(qam j.1+qam j.2) - qam j.2)=[]:=by
      rw [List.drop_eq_nil_iff]; omega
    simp only [this];rw [if_neg (fun h=>h rfl)]
  split
  · rename_i l hl; rw [hl]; rfl
  rename_i r hr; rw [hr]; rfl
def qnS (j:Jn) (l:List Int):List Int:=(l.take 8).map fun x=>x % (j.1.length:Int)
theorem qoP {j:Jn} {l:List Int} (h0:j.1≠[]) (hx:∀ x∈l,0≤x∧x≤255) (hm:l.length≤9223372036854775807):qgf j l=some (qnS j l):=by
 have l0:=List.length_pos_iff.2 h0;unfold qgf;rw [if_pos ⟨by omega,by omega,by omega⟩]
 have e:((l.take (min (l.length:Int) 8).toNat).drop (0:Int).toNat)=l.take 8:=by
  simp only [Int.toNat_zero,List.drop_zero];by_cases h8:l.length≤8
  ·rw [List.take_of_length_le (show l.length≤8 from h8),List.take_of_length_le (by omega)]
  congr 1; omega
 simp only [e]
 have hl8:(l.take 8).length≤8:=by rw [List.length_take]; omega
 refine qfn (qch (fun i=>((i:Int),((l.take 8).take i).map fun x=>x % (j.1.length:Int))) (l.take 8).length (qnS j l) (fun i hi=>?_) (by simp only; rw [if_neg (qaB _),List.take_length]; rfl) rfl) rfl;have hxi:=hx _ (List.mem_of_mem_take (List.getElem_mem hi));simp only;rw [if_pos (qbJ hi),ix hi];simp only [Option.bind_some];have hw:IntKind.wrap .i64 (l.take 8)[i]=(l.take 8)[i]:=w64 (by omega) (by omega);rw [if_pos (by omega),hw,Int.tmod_eq_emod_of_nonneg hxi.1];rw [if_pos (qdz (by simp only [List.length_map,List.length_take,List.length_singleton]; omega) (by simp only [List.length_map,List.length_take,List.length_singleton]; omega)),nx (by omega) hi];rw [← List.take_append_getElem hi,List.map_append];rfl
def disp (w:List UInt8):Int:=2*((w.count 49:Nat):Int) - (w.length:Int)
theorem qgs {w:List UInt8} (hb:bitW w) (hl:w.length≤65536):qbK w=some (disp w,0):=by
 unfold qbK;obtain ⟨e,he,hz⟩:=qqO 2 w
 have:e=0:=hz.2 ⟨by omega,hl,fun c hc=>by
  have:=hb c hc
  have e2:letters.take (2:Int).toNat=[48,49]:=by decide
  rw [e2]
  simpa [bitB] using this⟩
 rw [he,this];have hc:=List.count_le_length (a:=(49:UInt8)) (l:=w);simp only [Option.bind_some,qb0,Lib.countByte];rw [if_neg (show ¬ ((0:Int)≠0) from fun h=>h rfl),w64 (n:=2*((w.count 49:Nat):Int)) (by omega) (by omega),w64 (by omega) (by omega)];rfl
theorem qiU {w:List UInt8} (hb:bitW w) (hl:w.length≤65536):qbs w=some (disp w):=by
 unfold qbs;rw [qgs hb hl];rfl
section
variable {g:Gr}
theorem qi3 (hv:VG g) (h2:g.1=2) {a:List Int} (ha:qd2 g a) {w:List UInt8} (hb:bitW w) (hl:w.length≤65536):qbT g a w=some (qbP g a w):=by
 unfold qbT;refine qfn (qch (fun i=>(qbP g a (w.take i),(i:Int))) w.length (qbP g a w) (fun i hi=>?_) (by simp only; rw [if_neg (qaB _),List.take_length]) rfl) rfl;simp only;have hc:=qnm h2 (hb _ (List.getElem_mem hi));obtain ⟨k,hk,hk1,hk2,hk3⟩:=qoT hc;rw [if_pos (qbJ hi),ix hi];simp only [Option.bind_some,qaH]
 have e:Lib.indexByte [48,49,50,51,52,53,54,55,56,57,97,98,99,100,101,102] (w[i].toNat:Int).toNat.toUInt8=lab w[i]:=by
  rw [Int.toNat_natCast];simp [lab,letters]
 rw [e,qpz hv (qhw ha _) (by omega) (by omega)];simp only [Option.bind_some,nx (show w.length≤9223372036854775807 by omega) hi];rw [← List.take_append_getElem hi,qec];rfl
end
def qjR (g:Gr) (set:List Int) (sum:Int) (x m:List UInt8):Int × Bool:=(max (sum+disp (m++x)) (-(sum+disp (m++x))),decide (qbP g set (m++x)≠[]))
def qex (g:Gr) (set:List Int) (sum:Int) (x:List UInt8) (a:List UInt8 × Int × Bool) (m:List UInt8):List UInt8 × Int × Bool :=
 if (qjR g set sum x m).2=true∧(a.2.2=false∨(qjR g set sum x m).1<a.2.1) then (m,(qjR g set sum x m).1,true) else a
def qc8 (g:Gr) (set:List Int) (sum:Int) (x:List UInt8) (ms:List (List UInt8)):List UInt8 × Int × Bool:=ms.foldl (qex g set sum x) ([],0,false)
theorem qjt {w:List UInt8} : -(w.length:Int)≤disp w∧disp w≤w.length:=by
 have:=List.count_le_length (a:=(49:UInt8)) (l:=w);unfold disp;omega
section
variable {g:Gr}
theorem qph {j : Jn} (hj : VJ j g) {set:List Int} (hset:qd2 g set) {sum:Int} (hsum : -1000000≤sum∧sum≤1000000) {n:Int} (hn:0≤n∧n.toNat<j.1.length) :
    loopW (S := (List UInt8) × Int × Bool × Int) (X:=(List UInt8) × Bool) (fun a52 =>
                   if a52.2.2.2<((j.2).length:Int) then
                    jp (fun (a56:(List UInt8) × Int × Bool) =>
                      some (Stp.next (a56.1,a56.2.1,a56.2.2,IntKind.wrap .i64 (a52.2.2.2+1))))
                      fun k58 =>
                     (idx j.2 a52.2.2.2).bind fun x59 =>
                     jp (fun (a61:Int × Bool) =>
                       jp (fun (a64:Bool) =>
                         if a64=true then
                          k58 (x59,a61.1,true)
                         else
                          k58 (a52.1,a52.2.1,a52.2.2.1))
                         fun k66 =>
                        if a61.2=true then
                         if (!a52.2.2.1)=true then
                          k66 true
                         else
                          k66 (decide (a61.1<a52.2.1))
                        else
                         k66 false)
                       fun k63 =>
                      (idx j.1 n).bind fun x69 =>
                      if x59.length+x69.length≤maxLen then
                       (qbs (x59++x69)).bind fun x72 =>
                       (idx j.1 n).bind fun x74 =>
                       if x59.length+x74.length≤maxLen then
                        (qbT g set (x59++x74)).bind fun x77 =>
                        k63 (max (IntKind.wrap .i64 (sum+x72)) (IntKind.wrap .i64 (0 - (IntKind.wrap .i64 (sum+x72)))),decide (0<((x77).length:Int)))
                       else none
                      else none
                   else
                    some (Stp.exit (a52.1,a52.2.2.1))) (([]:List UInt8),0,false,0)=some ((qc8 g set sum (wd j n) j.2).1,(qc8 g set sum (wd j n) j.2).2.2):=by
  have hl:=hj.f.l2;have wx:=qlY hj.f (qeP hn);have key:∀ k,k≤j.2.length→True:=fun _ _=>trivial;refine qch (fun i=>((qc8 g set sum (wd j n) (j.2.take i)).1,(qc8 g set sum (wd j n) (j.2.take i)).2.1,(qc8 g set sum (wd j n) (j.2.take i)).2.2,(i:Int))) j.2.length _ (fun i hi=>?_) (by simp only; rw [if_neg (qaB _),List.take_length]) rfl;have wm:=qmU hj.f (List.getElem_mem hi);have hbw:bitW (j.2[i]++wd j n):=qe2.2 ⟨wm.1,wx.1⟩
  have hlw:(j.2[i]++wd j n).length≤32:=by simp only [List.length_append]; omega
  have hd:=qjt (w:=j.2[i]++wd j n);simp only [jp];rw [if_pos (qbJ hi),ix hi,qof hn];simp only [Option.bind_some];rw [if_pos (by simp only [maxLen]; omega),qiU hbw (by omega)];simp only [Option.bind_some];rw [if_pos (by simp only [maxLen]; omega),qi3 hj.hv hj.h2 hset hbw (by omega)];simp only [Option.bind_some,nx (show j.2.length≤9223372036854775807 by omega) hi];have w1:IntKind.wrap .i64 (sum+disp (j.2[i]++wd j n))=sum+disp (j.2[i]++wd j n):=w64 (by omega) (by omega)
  have w2:IntKind.wrap .i64 (0 - (sum+disp (j.2[i]++wd j n))) = -(sum+disp (j.2[i]++wd j n)):=by rw [w64 (by omega) (by omega)]; omega
  simp only [w1,w2]
  have es:qc8 g set sum (wd j n) (j.2.take (i+1))=qex g set sum (wd j n) (qc8 g set sum (wd j n) (j.2.take i)) j.2[i]:=by
    unfold qc8;rw [← List.take_append_getElem hi,List.foldl_append];rfl
  rw [es];generalize qc8 g set sum (wd j n) (j.2.take i)=A
  have hne:(0<((qbP g set (j.2[i]++wd j n)).length:Int))↔qbP g set (j.2[i]++wd j n)≠[]:=by
    rw [← List.length_pos_iff]; omega
  unfold qex qjR;simp only [hne,decide_eq_true_eq];by_cases h1:qbP g set (j.2[i]++wd j n)≠[]
  · rw [if_pos h1]
    cases h2:A.2.2 with
    | false=>simp [h1,h2]
    | true =>
      by_cases h3:max (sum+disp (j.2[i]++wd j n)) (-(sum+disp (j.2[i]++wd j n)))<A.2.1 <;> simp [h1,h2,h3]
  rw [if_neg h1];simp [h1]
end
theorem qo0 {α:Type} {l:List α} {d:α} {i:Nat} (h:i<l.length):l.getD i d=l[i]:=by rw [List.getD_eq_getElem?_getD,List.getElem?_eq_getElem h]; rfl
def ql0 (E:List qaq) (i:Nat):Bool:=decide ((E.getD i (0,0,0)).1=(E.getD (i+1) (0,0,0)).1) && decide ((E.getD i (0,0,0)).2.1=(E.getD (i+1) (0,0,0)).2.1)
def detX (E:List qaq):Bool:=!(List.range (E.length - 1)).any (ql0 E)
section
variable {g:Gr}
theorem qrZ (he:qa1 g=some 0) (hv:VG g):qbH g=some (detX g.2.2,0):=by
 unfold qbH;rw [qeg,he,Option.bind_some];rw [if_neg (show ¬ (0:Int)≠0 from fun h=>h rfl)];have hel:=hv.el;refine lpL (qhn (fun i=>((i+1:Nat):Int)) (g.2.2.length - 1) (ql0 g.2.2) (Ou.ret (false,0)) (Ou.go ()) (fun i hi=>?_) (by rw [if_neg (by omega)]) rfl) ?_
 ·have hi1:i+1<g.2.2.length:=by omega
  have e3:IntKind.wrap .i64 (((i+1:Nat):Int) - 1)=(i:Int):=by rw [w64 (by omega) (by omega)]; omega
  simp only [jp];rw [if_pos (by omega),e3,ix (by omega:i<g.2.2.length),ix hi1,Option.bind_some,Option.bind_some];unfold ql0;rw [qo0 (show i<g.2.2.length by omega),qo0 hi1,nx (by omega:g.2.2.length≤_) hi1];by_cases c1:(g.2.2[i]'(by omega)).1=g.2.2[i+1].1
  ·rw [if_pos c1]
   simp [c1]
  rw [if_neg c1];simp [c1]
 unfold detX
 cases (List.range (g.2.2.length - 1)).any (ql0 g.2.2) <;> rfl
theorem qqN (he:qa1 g=some 0) (hv:VG g):qcV g=some (detX g.2.2,0):=by
 unfold qcV;rw [he,Option.bind_some];rw [if_neg (show ¬ (0:Int)≠0 from fun h=>h rfl)];have hel:=hv.el;refine lpL (qhn (fun i=>((i+1:Nat):Int)) (g.2.2.length - 1) (ql0 g.2.2) (Ou.ret (false,0)) (Ou.go ()) (fun i hi=>?_) (by rw [if_neg (by omega)]) rfl) ?_
 ·have hi1:i+1<g.2.2.length:=by omega
  have e3:IntKind.wrap .i64 (((i+1:Nat):Int) - 1)=(i:Int):=by rw [w64 (by omega) (by omega)]; omega
  simp only [jp];rw [if_pos (by omega),e3,ix (by omega:i<g.2.2.length),ix hi1,Option.bind_some,Option.bind_some];unfold ql0;rw [qo0 (show i<g.2.2.length by omega),qo0 hi1,nx (by omega:g.2.2.length≤_) hi1];by_cases c1:(g.2.2[i]'(by omega)).1=g.2.2[i+1].1
  ·rw [if_pos c1.symm]
   by_cases c2:(g.2.2[i]'(by omega)).2.1=g.2.2[i+1].2.1
   ·simp [c1,c2]
   have c3:¬ g.2.2[i+1].2.1=(g.2.2[i]'(by omega)).2.1:=fun h=>c2 h.symm;simp [c1,c2,c3]
  rw [if_neg (fun h=>c1 h.symm)];simp [c1]
 unfold detX
 cases (List.range (g.2.2.length - 1)).any (ql0 g.2.2) <;> rfl
theorem VG.comp (hv:VG g):qlJ g:=⟨⟨hv.s0,by have:=hv.s1; omega⟩,by have:=hv.el; omega,fun e he=>by have:=hv.ed e he; exact ⟨⟨this.1,this.2.1⟩,this.2.2.1,this.2.2.2.1⟩⟩
theorem qjv (g:Gr) (n:Nat):(qdK g n).length≤n:=by
 unfold qdK;rw [List.length_map];exact Nat.le_trans (List.length_filter_le _ _) (by simp)
def irrB (g:Gr):Bool:=decide ((qdK g g.2.1.toNat).length=1) && decide (0<g.2.2.length)
theorem qsK (he:qa1 g=some 0) (hv:VG g):qbm g=some (irrB g,0):=by
 have hs1:=hv.s1;have hcl:=qjv g g.2.1.toNat
 have h1:qdm g=some (qdK g g.2.1.toNat,0):=by
  unfold qdm qdt qb6;rw [qeg,he,Option.bind_some,if_neg (show ¬ (0:Int)≠0 from fun h=>h rfl),if_pos hv.comp,Option.bind_some]
  have hf:forL (X:=Unit) (fun a7 (x9:List Int)=>(qbL x9).bind fun x13=>if x13=true then (if fits 24 ((a7:List (List Int)).length+([x9]).length) then some (Stp.next (a7++[x9])) else none) else some (Stp.next a7)) (qdK g g.2.1.toNat) ([]:List (List Int))=some (.go (qdK g g.2.1.toNat)):=by
   have key:∀ (L a:List (List Int)),a.length+L.length≤1000→forL (X:=Unit) (fun a7 (x9:List Int)=>(qbL x9).bind fun x13=>if x13=true then (if fits 24 ((a7:List (List Int)).length+([x9]).length) then some (Stp.next (a7++[x9])) else none) else some (Stp.next a7)) L a=some (.go (a++L)):=by
    intro L
    induction L with
    | nil=>intro a _; rw [List.append_nil]; rfl
    | cons x L ih =>
     intro a ha;simp only [List.length_cons] at ha
     have:(qbL x).bind (fun x13=>if x13=true then (if fits 24 (a.length+([x]).length) then some (Stp.next (X:=Unit) (a++[x])) else none) else some (Stp.next a))=some (Stp.next (a++[x])):=by
      unfold qbL;rw [Option.bind_some,if_pos rfl,if_pos (qdz (by simp only [List.length_singleton]; omega) (by simp only [List.length_singleton]; omega))]
     simp only [forL,this];rw [ih (a++[x]) (by simp only [List.length_append,List.length_singleton]; omega),List.append_assoc];rfl
   exact key _ [] (by simp; omega)
  rw [hf];rfl
 unfold qbm;rw [h1,Option.bind_some];simp only [jp,if_true];unfold irrB;by_cases c:(qdK g g.2.1.toNat).length=1
 ·rw [if_pos (by omega),c]
  simp
 rw [if_neg (by omega),decide_eq_false c,Bool.false_and]
theorem qk9 (E:List qaq):∀ (n:Nat) (o:List Bool),rnds E (n+1) o=rnd E (rnds E n o)
 | 0,_=>rfl
 | n+1,o=>by
  show rnds E (n+1) (rnd E o)=rnd E (rnds E n (rnd E o));exact qk9 E n (rnd E o)
theorem qnM (hv:VG g) {s:Nat} (hs:s<g.2.1.toNat):qeI g (s:Int)=some (rowR g s):=by
 have hs0:=hv.s0;have hs1:=hv.s1;have hel:=hv.el;obtain ⟨S,hS⟩:=Int.eq_ofNat_of_zero_le hs0
 have hrr:rowR g s=rnds g.2.2 S ((List.replicate S false).set s true):=by
  unfold rowR;rw [hS,Int.toNat_natCast];exact qnN (fun e he=>by have:=hv.ed e he; rw [hS] at this; exact ⟨⟨this.1,this.2.1⟩,this.2.2.1,this.2.2.2.1⟩) (by omega)
 have hS64:S≤64:=by omega
 have hsS:s<S:=by omega
 unfold qeI;rw [hS];rw [if_pos (by omega),Int.toNat_natCast,ix (show s<(List.replicate S (false:Bool)).length by simpa using hsS),Option.bind_some,Int.toNat_natCast]
 have hlen0:((List.replicate S false).set s true).length=S:=by simp
 refine qfn (qch (fun i=>((i:Int),rnds g.2.2 i ((List.replicate S false).set s true))) S (rnds g.2.2 S ((List.replicate S false).set s true)) (fun i hi=>?_) (by dsimp only; rw [if_neg (qaB _)]) rfl) (by rw [hrr]);dsimp only;rw [if_pos (qbJ hi),nx (by omega:S≤_) hi]
 have hli:(rnds g.2.2 i ((List.replicate S false).set s true)).length=S:=by rw [qkv,hlen0]
 rw [qk9];generalize rnds g.2.2 i ((List.replicate S false).set s true)=o at hli;refine qfn (qch (fun k=>((k:Int),rnd (g.2.2.take k) o)) g.2.2.length (rnd g.2.2 o) (fun k hk=>?_) (by dsimp only; rw [if_neg (qaB _),List.take_length]) rfl) rfl;dsimp only;have hed:=hv.ed _ (List.getElem_mem hk)
 have hlk:(rnd (g.2.2.take k) o).length=S:=by rw [qhP,hli]
 have hrk:rnd (g.2.2.take (k+1)) o=rndE (rnd (g.2.2.take k) o) g.2.2[k]:=by
  unfold rnd;rw [← List.take_append_getElem hk,List.foldl_append];rfl
 rw [if_pos (qbJ hk),ix hk,nx (by omega:g.2.2.length≤_) hk,hrk];generalize rnd (g.2.2.take k) o=o2 at hlk;generalize g.2.2[k]=x at hed;obtain ⟨x1,x2,x3⟩:=x;dsimp only at hed;obtain ⟨a,rfl⟩:=Int.eq_ofNat_of_zero_le hed.1;obtain ⟨b,rfl⟩:=Int.eq_ofNat_of_zero_le hed.2.2.1
 have ha:a<o2.length:=by omega
 have hb:b<o2.length:=by omega
 simp only [jp,Option.bind_some];rw [ix ha,ix hb];simp only [Option.bind_some,Int.toNat_natCast];unfold rndE;dsimp only;rw [Int.toNat_natCast,Int.toNat_natCast,qo0 ha]
 split <;> rfl
end
section
variable {g:Gr}
theorem qmd (g:Gr) (s n:Nat):(lstB g s n).Pairwise (· < ·):=by
 unfold lstB;rw [List.pairwise_map];refine (List.Pairwise.filter _ List.pairwise_lt_range).imp fun {a b} h=>?_;show (a:Int)<(b:Int);omega
theorem qkI {s n t:Nat} (ht:t<n) (h:inC g s t=true):(t:Int)∈lstB g s n:=List.mem_map.2 ⟨t,List.mem_filter.2 ⟨List.mem_range.2 ht,h⟩,rfl⟩
theorem qmV {s n:Nat} {x:Int} (h:x∈lstB g s n):∃ t:Nat,x=(t:Int)∧t<n∧inC g s t=true:=by
 obtain ⟨t,ht,rfl⟩:=List.mem_map.1 h;obtain ⟨h1,h2⟩:=List.mem_filter.1 ht;exact ⟨t,rfl,List.mem_range.1 h1,h2⟩
theorem qmo {l:List Int} (h:l.Pairwise (· < ·)) {x:Int} (hx:l.head?=some x):∀ y∈l,x≤y:=by
 cases l with
 | nil=>cases hx
 | cons a l =>
  cases hx;intro y hy
  rcases List.mem_cons.1 hy with rfl | hy
  ·exact Int.le_refl _
  exact Int.le_of_lt ((List.pairwise_cons.1 h).1 y hy)
theorem qiQ (hv:VG g) {s:Nat} (hs:s<g.2.1.toNat):inC g s s=true:=(qjm hv.comp hs hs).2 ⟨.refl s,.refl s⟩
def firB (g:Gr) (s n:Nat):Bool:=(lstB g s n).all fun y=>decide ((s:Int)≤y)
theorem qlB (hv:VG g) {s:Nat} (hs:s<g.2.1.toNat):firB g s g.2.1.toNat=true↔(lstB g s g.2.1.toNat).head?=some (s:Int):=by
 have hm:=qkI (g:=g) hs (qiQ hv hs);unfold firB;rw [List.all_eq_true];constructor
 ·intro h
  obtain ⟨x,hx⟩:∃ x,(lstB g s g.2.1.toNat).head?=some x:=by
   cases hl:lstB g s g.2.1.toNat with
   | nil=>rw [hl] at hm; cases hm
   | cons x l=>exact ⟨x,rfl⟩
  have h1:=qmo (qmd g s _) hx _ hm;have h2:=h x (List.mem_of_head? hx);simp only [decide_eq_true_eq] at h2;rw [hx,show x=(s:Int) by omega]
 intro h y hy
 simpa using qmo (qmd g s _) h y hy
theorem qo5 (g:Gr) (s n:Nat):firB g s (n+1)=if inC g s n=true then (firB g s n && decide ((s:Int)≤(n:Int))) else firB g s n:=by
 unfold firB;rw [qjl];split
 ·rw [List.all_append]
  simp
 rfl
theorem qos (g:Gr) (n:Nat):(qcc g n).length=n:=by unfold qcc; rw [List.length_map,List.length_range]
theorem qmH (g:Gr) {n i:Nat} (h:i<n):idx (qcc g n) (i:Int)=some (rowR g i):=by
 unfold qcc;rw [qgh,List.getElem?_map,List.getElem?_range h];rfl
theorem qou (g:Gr) {s i:Nat} (h:i<g.2.1.toNat):idx (rowR g s) (i:Int)=some ((rowR g s).getD i false):=by
 have hl:=qmI g s;rw [qgh,List.getD_eq_getElem?_getD,List.getElem?_eq_getElem (by omega)];rfl
theorem qra (he:qa1 g=some 0) (hv:VG g):qgv g=some (qdK g g.2.1.toNat,0):=by
 have hs0:=hv.s0;have hs1:=hv.s1;obtain ⟨S,hS⟩:=Int.eq_ofNat_of_zero_le hs0
 have hS64:S≤64:=by omega
 have hn:g.2.1.toNat=S:=by omega
 unfold qgv;rw [he,Option.bind_some,if_neg (show ¬ (0:Int)≠0 from fun h=>h rfl),hn];simp only [hS];refine qfn (qch (fun i=>((i:Int),qcc g i)) S (qcc g S) (fun i hi=>?_) (by dsimp only; rw [if_neg (qaB _)]) rfl) ?_
 ·dsimp only
  have hl:=qos g i;rw [if_pos (qbJ hi),qnM hv (by omega),Option.bind_some,if_pos (qdz (by simp only [List.length_singleton]; omega) (by simp only [List.length_singleton]; omega)),nx (by omega:S≤_) hi]
  have:qcc g (i+1)=qcc g i++[rowR g i]:=by unfold qcc; rw [List.range_succ,List.map_append]; rfl
  rw [this]
 refine qfn (qch (fun i=>((i:Int),qdK g i)) S (qdK g S) (fun i hi=>?_) (by dsimp only; rw [if_neg (qaB _)]) rfl) rfl;dsimp only;have hcl:=qjv g i;rw [if_pos (qbJ hi)];simp only [jp];refine qfn (qch (fun t=>(firB g i t,(t:Int),lstB g i t)) S (lstB g i S,firB g i S) (fun t ht=>?_) (by dsimp only; rw [if_neg (qaB _)]) rfl) ?_
 ·dsimp only
  have hll:=qkJ g i t;rw [if_pos (qbJ ht),qmH g hi,qmH g ht,nx (by omega:S≤_) ht,qo5,qjl];simp only [Option.bind_some];rw [qou g (show t<g.2.1.toNat by omega),qou g (show i<g.2.1.toNat by omega)];simp only [Option.bind_some];have hin:inC g i t=((rowR g i).getD t false && (rowR g t).getD i false):=rfl;rw [hin]
  cases (rowR g i).getD t false with
  | false=>simp
  | true =>
   cases (rowR g t).getD i false with
   | false=>simp
   | true =>
    simp only [if_true,Bool.and_self];rw [if_pos (qdz (by simp only [List.length_singleton]; omega) (by simp only [List.length_singleton]; omega))]
    cases firB g i t with
    | false=>simp
    | true=>simp
 dsimp only;have hf:=qlB hv (show i<g.2.1.toNat by omega);rw [hn] at hf;rw [qhX,hn,nx (by omega:S≤_) hi];by_cases c:firB g i S=true
 ·rw [if_pos c,if_pos (hf.1 c),if_pos (qdz (by simp only [List.length_singleton]; omega) (by simp only [List.length_singleton]; omega))]
 rw [if_neg c,if_neg (fun h=>c (hf.2 h))]
theorem qqg {l:List Int} (hl:l.length≤1000000) (x:Int):qfx l x=some (decide (x∈l)):=by
 unfold qfx;refine lpE (qhm (fun i=>(i:Int)) l (fun y=>decide (y=x)) (Ou.ret true) (Ou.go ()) (fun i hi=>?_) (by rw [if_neg (qaB _)]) rfl) ?_
 ·rw [if_pos (qbJ hi),ix hi,Option.bind_some,nx (by omega:l.length≤_) hi]
  simp
 by_cases h:x∈l
 ·rw [if_pos (List.any_eq_true.2 ⟨x,h,by simp⟩),decide_eq_true h]
  rfl
 rw [if_neg (fun ha=>by
  obtain ⟨y,hy,he⟩:=List.any_eq_true.1 ha;simp only [decide_eq_true_eq] at he;subst he
  exact h hy),decide_eq_false h]
 rfl
def cycB (E:List qaq) (l:List Int):Bool:=E.any fun e=>decide (e.1∈l) && decide (e.2.2∈l)
theorem qoa (he:qa1 g=some 0) (hv:VG g):qe6 g=some ((qdK g g.2.1.toNat).filter (cycB g.2.2),0):=by
 have hs1:=hv.s1;have hel:=hv.el;have hcl:=qjv g g.2.1.toNat;unfold qe6;rw [qra he hv,Option.bind_some];dsimp only
 have hll:∀ l∈qdK g g.2.1.toNat,l.length≤1000000:=fun l hl=>by
  unfold qdK at hl;obtain ⟨s,_,rfl⟩:=List.mem_map.1 hl;have:=qkJ g s g.2.1.toNat;omega
 generalize qdK g g.2.1.toNat=C at hcl hll;refine qfn (qch (fun i=>((i:Int),(C.take i).filter (cycB g.2.2))) C.length (C.filter (cycB g.2.2)) (fun i hi=>?_) (by dsimp only; rw [if_neg (qaB _),List.take_length]) rfl) rfl;dsimp only;have hm:=hll _ (List.getElem_mem hi);have htk:C.take (i+1)=C.take i++[C[i]]:=(List.take_append_getElem hi).symm;rw [if_pos (qbJ hi),ix hi,nx (by omega:C.length≤_) hi,htk,List.filter_append];simp only [jp,Option.bind_some]
 have hfl:((C.take i).filter (cycB g.2.2)).length≤64:=by
  refine Nat.le_trans (List.length_filter_le _ _) ?_;rw [List.length_take];omega
 generalize C[i]=l at hm;refine qfn (qch (fun k=>((g.2.2.take k).any (fun e=>decide (e.1∈l) && decide (e.2.2∈l)),(k:Int))) g.2.2.length (cycB g.2.2 l) (fun k hk=>?_) (by dsimp only; rw [if_neg (qaB _),List.take_length]; rfl) rfl) ?_
 ·dsimp only
  have htk2:g.2.2.take (k+1)=g.2.2.take k++[g.2.2[k]]:=(List.take_append_getElem hk).symm;rw [if_pos (qbJ hk),ix hk,nx (by omega:g.2.2.length≤_) hk,htk2,List.any_append];simp only [Option.bind_some,qqg hm];generalize g.2.2[k]=x
  cases (g.2.2.take k).any fun e=>decide (e.1∈l) && decide (e.2.2∈l) with
  | true=>simp
  | false =>
   by_cases c1:x.1∈l
   ·simp [c1]
   simp [c1]
 cases c:cycB g.2.2 l with
 | true =>
  rw [if_pos rfl,if_pos (qdz (by simp only [List.length_singleton]; omega) (by simp only [List.length_singleton]; omega))];simp [List.filter_cons,c]
 | false =>
  rw [if_neg (by decide)];simp [List.filter_cons,c]
theorem sel (hv:VG g):∀ (n t:Nat),t≤n→t<g.2.1.toNat→∃ s,s<g.2.1.toNat∧(lstB g s g.2.1.toNat).head?=some (s:Int)∧inC g s t=true:=by
 intro n
 induction n with
 | zero =>
  intro t ht hts
  obtain rfl:t=0:=by omega
  refine ⟨0,hts,(qlB hv hts).1 ?_,qiQ hv hts⟩;unfold firB;rw [List.all_eq_true];intro y hy;obtain ⟨t,rfl,_,_⟩:=qmV hy;simp
 | succ n ih =>
  intro t ht hts;by_cases c:(lstB g t g.2.1.toNat).head?=some (t:Int)
  ·exact ⟨t,hts,c,qiQ hv hts⟩
  have hm:=qkI (g:=g) hts (qiQ hv hts)
  obtain ⟨x,hx⟩:∃ x,(lstB g t g.2.1.toNat).head?=some x:=by
   cases hl:lstB g t g.2.1.toNat with
   | nil=>rw [hl] at hm; cases hm
   | cons x l=>exact ⟨x,rfl⟩
  have h1:=qmo (qmd g t _) hx _ hm;obtain ⟨u,rfl,hu,hut⟩:=qmV (List.mem_of_head? hx);have hne:u≠t:=fun e=>c (by rw [hx,e]);obtain ⟨s,hs,hsh,hsu⟩:=ih u (by omega) hu;refine ⟨s,hs,hsh,?_⟩;have a1:=(qjm hv.comp hs hu).1 hsu;have a2:=(qjm hv.comp hts hu).1 hut;exact (qjm hv.comp hs hts).2 ⟨a1.1.trans a2.2,a2.1.trans a1.2⟩
theorem qrY (he:qa1 g=some 0) (hv:VG g):qdy g=some (irrB g,0):=by
 have hs1:=hv.s1;unfold qdy;rw [qra he hv,qoa he hv];simp only [Option.bind_some,jp,if_true];unfold irrB;by_cases c:(qdK g g.2.1.toNat).length=1
 ·rw [if_pos (by omega),decide_eq_true c,Bool.true_and]
  congr 2
  have hcyc:∀ l,qdK g g.2.1.toNat=[l]→cycB g.2.2 l=decide (0<g.2.2.length):=by
   intro l hl
   have hall:∀ x:Int,0≤x∧x<g.2.1→x∈l:=by
    intro x hx;obtain ⟨t,rfl⟩:=Int.eq_ofNat_of_zero_le hx.1;obtain ⟨s,hs,hsh,hst⟩:=sel hv t t (Nat.le_refl _) (by omega)
    have hmem:lstB g s g.2.1.toNat∈qdK g g.2.1.toNat:=by
     unfold qdK;exact List.mem_map.2 ⟨s,List.mem_filter.2 ⟨List.mem_range.2 hs,by rw [hsh]; simp⟩,rfl⟩
    rw [hl] at hmem;rw [← List.mem_singleton.1 hmem];exact qkI (by omega) hst
   unfold cycB
   cases hE:g.2.2 with
   | nil=>rfl
   | cons e E =>
    have hed:=hv.ed e (by rw [hE]; exact List.mem_cons_self ..);rw [List.any_cons,decide_eq_true (hall e.1 ⟨hed.1,hed.2.1⟩),decide_eq_true (hall e.2.2 ⟨hed.2.2.1,hed.2.2.2.1⟩)];simp
  generalize qdK g g.2.1.toNat=C at c hcyc
  match C,c with
  | [l],_ =>
   have:=hcyc l rfl
   cases hE:decide (0<g.2.2.length) with
   | true=>rw [hE] at this; simp [List.filter_cons,this,of_decide_eq_true hE]
   | false=>rw [hE] at this; simp [List.filter_cons,this]
 rw [if_neg (by omega),decide_eq_false c,Bool.false_and]
end
def qg0 (p0 : Int) (p1 : Int):Option ((List (List UInt8)) × Int) :=
 jp (fun (a1 : Bool) =>
   if a1=true then
    some ([],12)
   else
    if p1<0 then
     some ([],2)
    else
     if 65536<p1 then
      some ([],4)
     else
      lpO (qgI (S := (List (List UInt8)) × Int) (X:=Ou ((List (List UInt8))) ((List (List UInt8)) × Int)) (fun a4 =>
          if a4.2 < p1 then
           if 4096<(IntKind.wrap .i64 (((a4.1).length:Int)*p0)) then
            some (Stp.exit (Ou.ret ([],4)))
           else
            (qgI (S := Int × (List (List UInt8))) (X:=(List (List UInt8))) (fun a9 =>
                if a9.1 < ((a4.1).length:Int) then
                 (qgI (S := Int × (List (List UInt8))) (X:=(List (List UInt8))) (fun a13 =>
                     if a13.1<p0 then
                      (idx a4.1 a9.1).bind fun x17 =>
                      if 0≤(a13.1:Int)∧(a13.1:Int)≤IntKind.wrap .i64 (a13.1+1)∧IntKind.wrap .i64 (a13.1+1)≤(([48,49,50,51,52,53,54,55,56,57,97,98,99,100,101,102]:List UInt8).length:Int) then
                       if x17.length+((([48,49,50,51,52,53,54,55,56,57,97,98,99,100,101,102]:List UInt8).take (IntKind.wrap .i64 (a13.1+1)).toNat).drop (a13.1).toNat).length≤maxLen then
                        if fits 16 ((a13.2:List (List UInt8)).length+([x17++((([48,49,50,51,52,53,54,55,56,57,97,98,99,100,101,102]:List UInt8).take (IntKind.wrap .i64 (a13.1+1)).toNat).drop (a13.1).toNat)]).length) then
                         some (Stp.next (IntKind.wrap .i64 (a13.1+1),a13.2++[x17++((([48,49,50,51,52,53,54,55,56,57,97,98,99,100,101,102]:List UInt8).take (IntKind.wrap .i64 (a13.1+1)).toNat).drop (a13.1).toNat)]))
                        else none
                       else none
                      else none
                     else
                      some (Stp.exit a13.2)) (0,a9.2)).bind fun a23 =>
                 some (Stp.next (IntKind.wrap .i64 (a9.1+1),a23))
                else
                 some (Stp.exit a9.2)) (0,[])).bind fun a25 =>
            some (Stp.next (a25,IntKind.wrap .i64 (a4.2+1)))
          else
           some (Stp.exit (Ou.go a4.1))) ([([]:List UInt8)],0)) (fun a27 =>
          some (a27,0)) some)
   fun k3 =>
  if p0<1 then
   k3 true
  else
   k3 (decide (16<p0))
set_option maxHeartbeats 1600000 in
theorem le_ref07_All {p0:Int} {p1:Int}:Lq (qg0 p0 p1) (qfz p0 p1):=by
 unfold qg0 qfz
 repeat' with_reducible first | intro _ | exact Lq.refl _ | exact Lq.none | apply zaq | apply Lq.bind | apply Lq.jp | apply Lq.loop | apply Lq.lpO | apply Lq.forL | apply_assumption
def qgp (p0:Int):Option (Bool) :=
 jp (fun (a1:Bool) =>
  some a1)
  fun k3 =>
  if 1≤p0 then
   k3 (decide (p0≤16))
  else
   k3 false
set_option maxHeartbeats 1600000 in
theorem qkL {p0:Int}:Lq (qgp p0) (qbR p0):=by
 unfold qgp qbR
 repeat' with_reducible first | intro _ | exact Lq.refl _ | exact Lq.none | apply zaq | apply Lq.bind | apply Lq.jp | apply Lq.loop | apply Lq.lpO | apply Lq.forL | apply_assumption
def qh0 (p0 : Int) (p1:Int):Option ((List (List UInt8)) × Int) :=
 (qgp p0).bind fun x1 =>
 if (!x1)=true then
  some ([],12)
 else
  if p1<0 then
   some ([],2)
  else
   if 65536<p1 then
    some ([],4)
   else
    if p0=1 then
     (qds [48] p1).bind fun x3 =>
     some ([x3],0)
    else
     lpO (qgI (S := (List (List UInt8)) × Int) (X:=Ou ((List (List UInt8))) ((List (List UInt8)) × Int)) (fun a5 =>
       if a5.2 < p1 then
        if 4096<(IntKind.wrap .i64 (((a5.1).length:Int)*p0)) then
         some (Stp.exit (Ou.ret ([],4)))
        else
         if 0 ≤ (0 : Int)∧(0:Int)≤IntKind.wrap .i64 (((a5.1).length:Int)*p0)∧(IntKind.wrap .i64 (((a5.1).length:Int)*p0):Int)*16≤281474976710656 then
          (qgI (S := Int × (List (List UInt8))) (X:=(List (List UInt8))) (fun a11 =>
            if a11.1<((a5.1).length:Int) then
             (idx a5.1 a11.1).bind fun x15 =>
             (qgI (S:=Int × (List (List UInt8))) (X:=(List (List UInt8))) (fun a17 =>
               if a17.1<p0 then
                if 0≤(a17.1:Int)∧(a17.1:Int)≤IntKind.wrap .i64 (a17.1+1)∧IntKind.wrap .i64 (a17.1+1)≤(([48,49,50,51,52,53,54,55,56,57,97,98,99,100,101,102]:List UInt8).length:Int) then
                 if x15.length+((([48,49,50,51,52,53,54,55,56,57,97,98,99,100,101,102]:List UInt8).take (IntKind.wrap .i64 (a17.1+1)).toNat).drop (a17.1).toNat).length≤maxLen then
                  if fits 16 ((a17.2:List (List UInt8)).length+([x15++((([48,49,50,51,52,53,54,55,56,57,97,98,99,100,101,102]:List UInt8).take (IntKind.wrap .i64 (a17.1+1)).toNat).drop (a17.1).toNat)]).length) then
                   some (Stp.next (IntKind.wrap .i64 (a17.1+1),a17.2++[x15++((([48,49,50,51,52,53,54,55,56,57,97,98,99,100,101,102]:List UInt8).take (IntKind.wrap .i64 (a17.1+1)).toNat).drop (a17.1).toNat)]))
                  else none
                 else none
                else none
               else
                some (Stp.exit a17.2)) (0,a11.2)).bind fun a25 =>
             some (Stp.next (IntKind.wrap .i64 (a11.1+1),a25))
            else
             some (Stp.exit a11.2)) (0,List.replicate (0:Int).toNat (([]:List UInt8):List UInt8))).bind fun a27 =>
          some (Stp.next (a27,IntKind.wrap .i64 (a5.2+1)))
         else none
       else
        some (Stp.exit (Ou.go a5.1))) ([([]:List UInt8)],0)) (fun a29 =>
       some (a29,0)) some
set_option maxHeartbeats 1600000 in
theorem le_word_All {p0:Int} {p1:Int}:Lq (qh0 p0 p1) (qeA p0 p1):=by
 unfold qh0 qeA
 repeat' with_reducible first | intro _ | exact Lq.refl _ | exact Lq.none | apply zaq | apply Lq.bind | apply Lq.jp | apply Lq.loop | apply Lq.lpO | apply Lq.forL | apply_assumption | apply qkL
theorem qlU:∀ r∈[0,1,2,3],qh0 2 ((r:Nat):Int)=some (allW [48,49] r,0)∧qg0 2 ((r:Nat):Int)=some (allW [48,49] r,0):=by decide +kernel
theorem qoe {r:Nat} (h:r≤3):qeA 2 (r:Int)=some (allW [48,49] r,0):=le_word_All.ap _ (qlU r (by simp only [List.mem_cons,List.not_mem_nil,or_false]; omega)).1
theorem qpT {r:Nat} (h:r≤3):qfz 2 (r:Int)=some (allW [48,49] r,0):=le_ref07_All.ap _ (qlU r (by simp only [List.mem_cons,List.not_mem_nil,or_false]; omega)).2
theorem qq5 {x:List UInt8} (h:∀ c∈x,c∈[(48:UInt8),49]):bitW x:=fun c hc=>by
 have:=h c hc;simp only [List.mem_cons,List.not_mem_nil,or_false] at this
 rcases this with rfl | rfl <;> rfl
def SmW (l:List (List UInt8)):Prop:=l.length≤1000∧∀ x∈l,bitW x∧x.length≤16
section
variable {g:Gr}
theorem qoU (hv:VG g) (h2:g.1=2) {ms:List (List UInt8)} (hm:SmW ms) {a b:List UInt8} (ha:bitW a) (hb:bitW b) (la:a.length≤16) (lb:b.length≤16):qbf g ms a b=some (qbw g ms a b):=by
 unfold qbf;have:=hm.1;rw [qc9 (fun m=>inW g (a++m++b)) (by omega) fun m h=>qlo hv h2 ha (hm.2 m h).1 hb la (hm.2 m h).2 lb];rfl
theorem qmm (hv:VG g) (h2:g.1=2) {ms:List (List UInt8)} (hms:SmW ms) {a b:List UInt8} (ha:bitW a) (hb:bitW b) (la:a.length≤16) (lb:b.length≤16):qbS ms g a b=some (qbw g ms a b):=by
 unfold qbS;have h256:=hms.1;refine lpE (qhm (fun i=>(i:Int)) ms (fun m=>inW g (a++m++b)) (Ou.ret true) (Ou.go ()) (fun i hi=>?_) (by rw [if_neg (qaB _)]) rfl) ?_
 ·obtain ⟨hm,lm⟩:=hms.2 _ (List.getElem_mem hi)
  rw [if_pos (qbJ hi),ix hi];simp only [Option.bind_some];rw [if_pos (by simp only [maxLen]; omega),if_pos (by simp only [maxLen,List.length_append]; omega),qkz hv h2 (qe2.2 ⟨qe2.2 ⟨ha,hm⟩,hb⟩) (by simp only [List.length_append]; omega)];simp only [Option.bind_some,nx (show ms.length≤9223372036854775807 by omega) hi]
 unfold qbw
 cases ms.any fun m=>inW g (a++m++b) <;> rfl
def qmh (g:Gr) (ms out:List (List UInt8)) (w:List UInt8):Bool:=!qbw g ms w w || out.any fun v=>!qbw g ms v w || !qbw g ms w v
def qdc (g:Gr) (ms out:List (List UInt8)) (w:List UInt8):List (List UInt8):=if qmh g ms out w=true then out else out++[w]
def qok (g:Gr) (ms all:List (List UInt8)):List (List UInt8):=all.foldl (qdc g ms) []
theorem qhc (ms out:List (List UInt8)) (w:List UInt8):(qdc g ms out w).length≤out.length+1∧out.length≤(qdc g ms out w).length:=by
 unfold qdc;split
 ·omega
 rw [List.length_append,List.length_singleton]; omega
theorem qk5 {ms out:List (List UInt8)} {w x:List UInt8} (h:x∈qdc g ms out w):x∈out∨x=w:=by
 unfold qdc at h;split at h
 ·exact .inl h
 rcases List.mem_append.1 h with h | h
 ·exact .inl h
 exact .inr (List.mem_singleton.1 h)
theorem qf5 (ms:List (List UInt8)):∀ (l out:List (List UInt8)),(∃ m,l.foldl (qdc g ms) out=out++m)∧(l.foldl (qdc g ms) out).length≤out.length+l.length∧∀ x∈l.foldl (qdc g ms) out,x∈out∨x∈l
 | [],out=>⟨⟨[],by simp⟩,by simp,fun x hx=>.inl hx⟩
 | w::l,out=>by
  obtain ⟨⟨m,hm⟩,h2,h3⟩:=qf5 ms l (qdc g ms out w);have h4:=qhc (g:=g) ms out w;refine ⟨?_,by rw [List.foldl_cons,List.length_cons]; omega,fun x hx=>?_⟩
  ·rw [List.foldl_cons,hm]
   unfold qdc;split
   ·exact ⟨m,rfl⟩
   exact ⟨w::m,by rw [List.append_assoc]; rfl⟩
  rw [List.foldl_cons] at hx
  rcases h3 x hx with h | h
  ·rcases qk5 h with h | rfl
   ·exact .inl h
   exact .inr (List.mem_cons_self ..)
  exact .inr (List.mem_cons_of_mem _ h)
theorem qrO (hv:VG g) (h2:g.1=2) {ms:List (List UInt8)} (hms:SmW ms) {out:List (List UInt8)} (ho:SmW out) {w:List UInt8} (hw:bitW w) (lw:w.length≤16):qnX g ms out w=some (qmh g ms out w):=by
 unfold qnX qmh;rw [qoU hv h2 hms hw hw lw lw,Option.bind_some];have hol:=ho.1;by_cases c:(!qbw g ms w w)=true
 ·rw [if_pos c,c,Bool.true_or]
 rw [if_neg c]
 have c':(!qbw g ms w w)=false:=by simpa using c
 rw [c',Bool.false_or];refine qc9 (fun v=>!qbw g ms v w || !qbw g ms w v) (by omega) fun v hvm=>?_;obtain ⟨hb,hl⟩:=ho.2 v hvm;unfold qcD;rw [qoU hv h2 hms hb hw hl lw,qoU hv h2 hms hw hb lw hl];simp only [jp,Option.bind_some]
 cases qbw g ms v w <;> simp
theorem qqQ (hv:VG g) (h2:g.1=2) {ms:List (List UInt8)} (hms:SmW ms):∀ (l out:List (List UInt8)),SmW out→out.length+l.length≤1000→(∀ x∈l,bitW x∧x.length≤16)→tkW (qnX g ms) l out=some (l.foldl (qdc g ms) out)
 | [],_,_,_,_=>rfl
 | w::l,out,ho,hl,hw=>by
  obtain ⟨hb,lw⟩:=hw w (List.mem_cons_self ..);simp only [List.length_cons] at hl
  have ho':SmW (qdc g ms out w):=by
   refine ⟨by have:=(qhc (g:=g) ms out w).1; omega,fun x hx=>?_⟩
   rcases qk5 hx with h | rfl
   ·exact ho.2 x h
   exact ⟨hb,lw⟩
  have ih:=qqQ hv h2 hms l (qdc g ms out w) ho' (by have:=(qhc (g:=g) ms out w).1; omega) fun x hx=>hw x (List.mem_cons_of_mem _ hx);rw [List.foldl_cons,← ih];simp only [tkW];rw [qrO hv h2 hms ho hb lw,Option.bind_some];unfold qdc
  split <;> rfl
def fstB (m:Int) (a24:List (List UInt8)) (x26:List UInt8):Option (Stp (List (List UInt8)) (List (List UInt8))):=if fits 16 ((a24:List (List UInt8)).length+([x26]).length) then (if (((a24++[x26]).length:Nat):Int)=m then some (Stp.exit (a24++[x26])) else some (Stp.next (a24++[x26]))) else none
theorem qna {m:Nat}:∀ (T a:List (List UInt8)),a.length<m→a.length+T.length≤1000 →
  forL (fstB (m:Int)) T a=some (if m≤a.length+T.length then .ret ((a++T).take m) else .go (a++T))
 | [],a,h1,h2=>by
  simp only [List.length_nil,Nat.add_zero,List.append_nil];rw [if_neg (by omega)];rfl
 | x::T,a,h1,h2=>by
  simp only [List.length_cons] at h2 ⊢
  have hl:(a++[x]).length=a.length+1:=by rw [List.length_append,List.length_singleton]
  have hbody:fstB (m:Int) a x=if a.length+1=m then some (Stp.exit (a++[x])) else some (Stp.next (a++[x])):=by
   unfold fstB;rw [if_pos (qdz (by simp only [List.length_singleton]; omega) (by simp only [List.length_singleton]; omega)),hl];by_cases c:a.length+1=m
   ·rw [if_pos (by omega),if_pos c]
   rw [if_neg (by omega),if_neg c]
  by_cases c:a.length+1=m
  ·rw [if_pos c] at hbody
   simp only [forL,hbody];rw [if_pos (by omega)]
   have e:a++x::T=(a++[x])++T:=by rw [List.append_assoc]; rfl
   rw [e,← c,← hl,List.take_left]
  rw [if_neg c] at hbody;simp only [forL,hbody];rw [qna T (a++[x]) (by omega) (by omega),hl,List.append_assoc]
  have e:a.length+1+T.length=a.length+(T.length+1):=by omega
  rw [e];rfl
end
section
variable {g:Gr}
def qcp (g:Gr) (n:Nat):List (List UInt8):=(allW (lets g) n).filter (accB g)
def mrgs (r:Nat):List (List UInt8):=allW [48,49] r
theorem qrA (h2:g.1=2):lets g=[48,49]:=by unfold lets; rw [h2]; rfl
theorem qkB {r:Nat} (h:r≤3):SmW (mrgs r):=by
 refine ⟨?_,fun x hx=>?_⟩
 ·unfold mrgs
  rw [qhD];have:[(48:UInt8),49].length ^ r≤2 ^ 3:=Nat.pow_le_pow_right (by decide) h;omega
 obtain ⟨h1,h2⟩:=qeq.1 hx;exact ⟨qq5 h2,by omega⟩
theorem qhG (h2:g.1=2) {n:Nat} (h:n≤6):(qcp g n).length≤64:=by
 unfold qcp;refine Nat.le_trans (List.length_filter_le _ _) ?_;rw [qhD,qrA h2];have:[(48:UInt8),49].length ^ n≤2 ^ 6:=Nat.pow_le_pow_right (by decide) h;omega
theorem qe9 (h2:g.1=2) {n:Nat} {x:List UInt8} (h:x∈qcp g n):x.length=n∧bitW x:=by
 have:=(List.mem_filter.1 h).1;rw [qrA h2] at this;obtain ⟨h1,h3⟩:=qeq.1 this;exact ⟨h1,qq5 h3⟩
theorem qsD (hv:VG g) (h2:g.1=2) {n:Nat} (h:n≤6):qbt g (n:Int)=some (qcp g n,0)∧qer g (n:Int)=some (qcp g n,0):=by
 have h1:qbt g (n:Int)=some (qcp g n,0):=qqH hv (by omega) (by omega) fun j j1 j2=>by
  have:g.1.toNat ^ j≤2 ^ 6:=by
   rw [h2];exact Nat.pow_le_pow_right (by decide) (by omega)
  omega
 obtain ⟨r,hr,hr2,_⟩:=qki g (n:Int);rw [h1] at hr;cases hr;exact ⟨h1,hr2⟩
def qdi (g:Gr) (n r:Nat):List (List UInt8):=qok g (mrgs r) (qcp g n)
def bldE (g:Gr) (n r m:Nat):qaw × Int:=if m≤(qdi g n r).length then (((qdi g n r).take m,mrgs r),0) else (([],[]),15)
theorem qpH (hv:VG g) (h2:g.1=2) {n r:Nat} (hn:n≤6) (hr:r≤3):qco (qcp g n) g (mrgs r)=some (qdi g n r):=by
 have hl:=qhG h2 hn;unfold qco;rw [if_pos (by omega)]
 exact qqQ hv h2 (qkB hr) _ [] ⟨by simp,fun x hx=>nomatch hx⟩ (by simp; omega) fun x hx=>by
  obtain ⟨h1,h3⟩:=qe9 h2 hx;exact ⟨h3,by omega⟩
theorem qhN (h2:g.1=2) {n r:Nat} (hn:n≤6):(qdi g n r).length≤64:=by
 have h:=(qf5 (g:=g) (mrgs r) (qcp g n) []).2.1;have hl:=qhG h2 hn;unfold qdi qok;simp only [List.length_nil] at h;omega
theorem qnD {n r:Nat} {x:List UInt8} (h:x∈qdi g n r):x∈qcp g n:=((qf5 (g:=g) (mrgs r) (qcp g n) []).2.2 x h).resolve_left (by simp)
theorem qpS (hv : VG g) (h2:g.1=2) {n r m:Nat} (hn:n≤6) (hr:r≤3) (hm1:1≤m) (hm8:m≤8) :
    loopW (S := Int × (List (List UInt8))) (X:=(List (List UInt8))) (fun a19 =>
              jp (fun (a23:Bool) =>
                if a23 = true then
                 jp (fun (a26:(List (List UInt8))) =>
                   some (Stp.next (IntKind.wrap .i64 (a19.1+1),a26)))
                   fun k28 =>
                  (idx (qcp g n) a19.1).bind fun x29 =>
                  (idx (qcp g n) a19.1).bind fun x31 =>
                  (qbS (mrgs r) g x29 x31).bind fun x33 =>
                  (loopW (S:=Bool × Int) (X:=Bool) (fun a35 =>
                      if a35.2<(((a19.2).length:Nat):Int) then
                       jp (fun (a39:Bool) =>
                         some (Stp.next (a39,IntKind.wrap .i64 (a35.2+1))))
                         fun k41 =>
                        if a35.1=true then
                         (idx (qcp g n) a19.1).bind fun x42 =>
                         (idx a19.2 a35.2).bind fun x44 =>
                         (idx a19.2 a35.2).bind fun x46 =>
                         (qbS (mrgs r) g x42 x46).bind fun x48 =>
                         if x48=true then
                          (idx a19.2 a35.2).bind fun x50 =>
                          (idx a19.2 a35.2).bind fun x52 =>
                          (idx (qcp g n) a19.1).bind fun x54 =>
                          (qbS (mrgs r) g x52 x54).bind fun x56 =>
                          k41 x56
                         else
                          k41 false
                        else
                         k41 false
                      else
                       some (Stp.exit a35.1)) (x33,0)).bind fun a60 =>
                  if a60=true then
                   (idx (qcp g n) a19.1).bind fun x62 =>
                   if fits 16 ((a19.2:List (List UInt8)).length+([x62]).length) then
                    k28 (a19.2++[x62])
                   else none
                  else
                   k28 a19.2
                else
                 some (Stp.exit a19.2))
                fun k25 =>
               if a19.1<(((qcp g n)).length:Int) then
                k25 (decide ((((a19.2).length:Nat):Int)<(m:Int)))
               else
                k25 false) (0,([]:List (List UInt8)))=some ((qdi g n r).take m):=by
  have hl:=qhG h2 hn;have hwm:=fun x (hx:x∈qcp g n)=>qe9 h2 hx;have hT:qdi g n r=(qcp g n).foldl (qdc g (mrgs r)) []:=rfl;rw [hT];generalize qcp g n=W at hl hwm;have hsm:=qkB hr
  suffices h:∃ x,loopW _ _=some x∧x=(W.foldl (qdc g (mrgs r)) []).take m by
    obtain ⟨x,hx,rfl⟩:=h;exact hx
  refine qmf (Q:=fun x=>x=(W.foldl (qdc g (mrgs r)) []).take m) W.length (fun i (s:Int × List (List UInt8))=>s=((i:Int),(W.take i).foldl (qdc g (mrgs r)) [])∧((W.take i).foldl (qdc g (mrgs r)) []).length≤m) (fun i s hi ⟨hs,hlm⟩=>?_) (fun s ⟨hs,hlm⟩=>?_) 0 (0,[]) (Nat.zero_le _) ⟨by simp,by simp⟩
  · subst hs
    obtain ⟨-,hFl,hFm⟩:=qf5 (g:=g) (mrgs r) (W.take i) [];obtain ⟨⟨M,hM⟩, -, -⟩:=qf5 (g:=g) (mrgs r) (W.drop i) ((W.take i).foldl (qdc g (mrgs r)) []);rw [← List.foldl_append,List.take_append_drop] at hM
    have hsucc:(W.take (i+1)).foldl (qdc g (mrgs r)) []=qdc g (mrgs r) ((W.take i).foldl (qdc g (mrgs r)) []) W[i]:=by
      rw [← List.take_append_getElem hi,List.foldl_append];rfl
    have hwi:=hwm _ (List.getElem_mem hi)
    have hFb:∀ x∈(W.take i).foldl (qdc g (mrgs r)) [],bitW x∧x.length≤16:=fun x hx=>by
      have:=hwm x (List.mem_of_mem_take ((hFm x hx).resolve_left (by simp)));exact ⟨this.2,by omega⟩
    rw [hsucc];generalize hF:(W.take i).foldl (qdc g (mrgs r)) []=F at hlm hM hFb;clear hF hFl hFm hsucc;dsimp only;simp only [jp];rw [if_pos (qbJ hi)];by_cases hc:F.length<m
    · refine .inl ⟨_,?_,rfl,by have:=(qhc (g:=g) (mrgs r) F W[i]).1; omega⟩
      rw [if_pos (by simpa using hc),ix hi];simp only [Option.bind_some];rw [nx (by omega:W.length≤_) hi];generalize W[i]=w at hwi;obtain ⟨lw,hw⟩:=hwi;rw [qmm hv h2 hsm hw hw (by omega) (by omega)];simp only [Option.bind_some];refine qfn (qch (fun k=>(qbw g (mrgs r) w w && (F.take k).all (fun v=>qbw g (mrgs r) w v && qbw g (mrgs r) v w),(k:Int))) F.length (qbw g (mrgs r) w w && F.all (fun v=>qbw g (mrgs r) w v && qbw g (mrgs r) v w)) (fun k hk=>?_) (by dsimp only; rw [if_neg (qaB _),List.take_length]) (by simp)) ?_
      · dsimp only
        have htk:F.take (k+1)=F.take k++[F[k]]:=(List.take_append_getElem hk).symm;obtain ⟨hv1,hv2⟩:=hFb _ (List.getElem_mem hk);rw [if_pos (qbJ hk),ix hk,nx (by omega:F.length≤_) hk,htk,List.all_append];simp only [Option.bind_some];generalize F[k]=v at hv1 hv2;rw [qmm hv h2 hsm hw hv1 (by omega) hv2,qmm hv h2 hsm hv1 hw hv2 (by omega)];simp only [Option.bind_some,List.all_cons,List.all_nil,Bool.and_true];rw [← Bool.and_assoc]
        cases (qbw g (mrgs r) w w && (F.take k).all fun v=>qbw g (mrgs r) w v && qbw g (mrgs r) v w) with
        | false=>simp
        | true =>
          cases qbw g (mrgs r) w v with
          | false=>simp
          | true=>simp
      have hleft:qmh g (mrgs r) F w = !(qbw g (mrgs r) w w && F.all fun v=>qbw g (mrgs r) w v && qbw g (mrgs r) v w):=by
        unfold qmh;rw [Bool.not_and,List.not_all_eq_any_not]
        congr 1
        refine congrArg (fun p=>F.any p) (funext fun v=>?_);rw [Bool.not_and,Bool.or_comm]
      unfold qdc;rw [hleft]
      cases qbw g (mrgs r) w w && F.all fun v=>qbw g (mrgs r) w v && qbw g (mrgs r) v w with
      | true =>
        rw [if_pos rfl,if_pos (qdz (by simp only [List.length_singleton]; omega) (by simp only [List.length_singleton]; omega))];simp
      | false=>simp
    refine .inr ⟨F,?_,?_⟩
    · rw [if_neg (by simpa using hc)]
    have e:F.length=m:=by omega
    rw [hM,← e,List.take_left]
  subst hs;rw [List.take_length] at hlm ⊢;refine ⟨_,?_,(List.take_of_length_le hlm).symm⟩;dsimp only;simp only [jp];rw [if_neg (qaB _),if_neg (by decide)]
end
section
variable {g:Gr}
theorem qqu (h2:g.1=2) {n r m:Nat} (hn:n≤6) (hr:r≤3):(bldE g n r m).1.1.length≤1000∧(bldE g n r m).1.2.length≤1000:=by
 have h1:=qhN (g:=g) (r:=r) h2 hn;have h3:=(qkB hr).1;unfold bldE;split
 ·exact ⟨by dsimp only; rw [List.length_take]; omega,h3⟩
 exact ⟨by simp,by simp⟩
theorem qrM (hv : VG g) (h2:g.1=2) {n r m:Nat} (hn:n≤6) (hr:r≤3) (hm1:1≤m) (hm8:m≤8) :
    (qco (qcp g n) g (mrgs r)).bind (fun L22 =>
           lpO (forL (S:=(List (List UInt8))) (X:=(List (List UInt8))) (fun a24 (x26:(List UInt8)) =>
               if fits 16 ((a24:List (List UInt8)).length+([x26]).length) then
                if (((a24++[x26]).length:Nat):Int)=(m:Int) then
                 some (Stp.exit (a24++[x26]))
                else
                 some (Stp.next (a24++[x26]))
               else none) L22 ([]:List (List UInt8))) (fun a32 =>
               some ((([],[]):qaw),(15:Int))) fun a34 =>
               some ((a34,mrgs r),0))=some (bldE g n r m):=by
  have hl:=qhN (g:=g) (r:=r) h2 hn;rw [qpH hv h2 hn hr,Option.bind_some];have h:=qna (m:=m) (qdi g n r) [] (by simp only [List.length_nil]; omega) (by simp; omega);refine lpL (h:forL _ _ _=_) ?_;unfold bldE;simp only [List.length_nil,Nat.zero_add,List.nil_append]
  split <;> rfl
def BOk (g:Gr) (n r m:Int) (x:qaw × Int):Prop:=VG g∧g.1=2∧qa1 g=some 0∧detX g.2.2=true∧irrB g=true∧∃ n' r' m':Nat,n=n'∧r=r'∧m=m'∧1≤n'∧n'≤6∧r'≤3∧1≤m'∧m'≤8∧x=bldE g n' r' m'
theorem qob (g:Gr) {n r m:Int} (hn:n≤6∨16<n) (hr:r≤3∨8<r) (hm:m≤8∨256<m):∃ x:qaw × Int,qcW g n r m=some x∧qhh g n r m=some x∧x.1.1.length≤1000∧x.1.2.length≤1000 ∧
  (x.2=0→BOk g n r m x)∧(x.2≠0→x.1=([],[])):=by
 obtain ⟨e,he,hz⟩:=qgt g
 have done:∀ c:Int,c≠0→(((([],[]):qaw),c):qaw × Int).1.1.length≤1000∧(((([],[]):qaw),c):qaw × Int).1.2.length≤1000 ∧
  ((((([],[]):qaw),c):qaw × Int).2=0→BOk g n r m ((([],[]):qaw),c))∧((((([],[]):qaw),c):qaw × Int).2≠0→(((([],[]):qaw),c):qaw × Int).1=([],[])):=fun c hc=>⟨by simp,by simp,fun h=>absurd h hc,fun _=>rfl⟩
 unfold qcW qhh;rw [qeg,he];simp only [Option.bind_some];by_cases h0:e=0
 case neg=>rw [if_pos h0,if_pos h0]; exact ⟨_,rfl,rfl,done 1 (by decide)⟩
 subst h0;have hv:=hz.1 rfl;rw [if_neg (show ¬ (0:Int)≠0 from fun h=>h rfl),if_neg (show ¬ (0:Int)≠0 from fun h=>h rfl)];by_cases h2:g.1=2
 case neg=>rw [if_pos h2,if_pos h2]; exact ⟨_,rfl,rfl,done 12 (by decide)⟩
 rw [if_neg (fun h=>h h2),if_neg (fun h=>h h2),qrZ he hv,qqN he hv,qsK he hv,qrY he hv];simp only [Option.bind_some,jp,ne_eq,not_true_eq_false,if_false]
 cases hd:detX g.2.2 with
 | false=>exact ⟨_,rfl,rfl,done 8 (by decide)⟩
 | true =>
 cases hi:irrB g with
 | false=>exact ⟨_,rfl,rfl,done 8 (by decide)⟩
 | true =>
 simp only [Bool.not_true,Bool.false_eq_true,if_false];by_cases c1:n<1
 ·rw [if_pos c1,if_pos c1]; exact ⟨_,rfl,rfl,done 2 (by decide)⟩
 rw [if_neg c1,if_neg c1];by_cases c2:16<n
 ·rw [if_pos c2,if_pos c2]; exact ⟨_,rfl,rfl,done 2 (by decide)⟩
 rw [if_neg c2,if_neg c2];by_cases c3:r<0
 ·rw [if_pos c3,if_pos c3]; exact ⟨_,rfl,rfl,done 2 (by decide)⟩
 rw [if_neg c3,if_neg c3];by_cases c4:8<r
 ·rw [if_pos c4,if_pos c4]; exact ⟨_,rfl,rfl,done 2 (by decide)⟩
 rw [if_neg c4,if_neg c4];by_cases c5:m<1
 ·rw [if_pos c5,if_pos c5]; exact ⟨_,rfl,rfl,done 2 (by decide)⟩
 rw [if_neg c5,if_neg c5];by_cases c6:256<m
 ·rw [decide_eq_true c6]; exact ⟨_,rfl,rfl,done 2 (by decide)⟩
 rw [decide_eq_false c6];simp only [Bool.false_eq_true,if_false];obtain ⟨n',rfl⟩:=Int.eq_ofNat_of_zero_le (show 0≤n by omega);obtain ⟨r',rfl⟩:=Int.eq_ofNat_of_zero_le (show 0≤r by omega);obtain ⟨m',rfl⟩:=Int.eq_ofNat_of_zero_le (show 0≤m by omega)
 have hn6:n'≤6:=by omega
 have hr3:r'≤3:=by omega
 have hm1:1≤m':=by omega
 have hm8:m'≤8:=by omega
 obtain ⟨w1,w2⟩:=qsD hv h2 hn6;have hlen:=qqu (g:=g) (m:=m') h2 hn6 hr3;rw [w1,w2,qoe hr3,qpT hr3];simp only [Option.bind_some,if_false];refine ⟨bldE g n' r' m',qrM hv h2 hn6 hr3 hm1 hm8,?_,hlen.1,hlen.2,fun _=>⟨hv,h2,he,hd,hi,n',r',m',rfl,rfl,rfl,by omega,hn6,hr3,hm1,hm8,rfl⟩,fun hx=>?_⟩
 ·refine qfn (qpS hv h2 hn6 hr3 hm1 hm8) ?_
  unfold bldE;by_cases c:m'≤(qdi g n' r').length
  ·rw [if_neg (by rw [List.length_take]; omega),if_pos c]
   rfl
  rw [if_pos (by rw [List.length_take]; omega),if_neg c]
 unfold bldE at hx ⊢;split at hx
 ·exact absurd rfl hx
 rename_i c
 rw [if_neg c]
end
section
variable {g:Gr}
theorem qk4 (ms:List (List UInt8)):∀ (l out:List (List UInt8)),∃ m,l.foldl (qdc g ms) out=out++m∧m.Sublist l
 | [],out=>⟨[],by simp,.slnil⟩
 | w::l,out=>by
  obtain ⟨m,h1,h2⟩:=qk4 ms l (qdc g ms out w);rw [List.foldl_cons,h1];unfold qdc;split
  ·exact ⟨m,rfl,h2.cons _⟩
  exact ⟨w::m,by rw [List.append_assoc]; rfl,h2.cons_cons _⟩
theorem qnC (n r:Nat):(qdi g n r).Sublist (qcp g n):=by
 obtain ⟨m,h1,h2⟩:=qk4 (g:=g) (mrgs r) (qcp g n) [];unfold qdi qok;rw [h1];exact h2
theorem qi2 (ms:List (List UInt8)):∀ (l out:List (List UInt8)),(∀ a∈out,∀ b∈out,qbw g ms a b=true)→∀ a∈l.foldl (qdc g ms) out,∀ b∈l.foldl (qdc g ms) out,qbw g ms a b=true
 | [],_,h=>h
 | w::l,out,h=>by
  rw [List.foldl_cons];refine qi2 ms l _ ?_;unfold qdc;split
  ·exact h
  rename_i hc
  have hc:qmh g ms out w=false:=by simpa using hc
  unfold qmh at hc;rw [Bool.or_eq_false_iff] at hc;obtain ⟨h1,h2⟩:=hc
  have hww:qbw g ms w w=true:=by simpa using h1
  have hv:∀ v∈out,qbw g ms v w=true∧qbw g ms w v=true:=fun v hv=>by
   have:=List.any_eq_false.1 h2 v hv
   simpa using this
  intro a ha b hb
  rcases List.mem_append.1 ha with ha | ha <;> rcases List.mem_append.1 hb with hb | hb
  ·exact h a ha b hb
  ·rw [List.mem_singleton.1 hb]; exact (hv a ha).1
  ·rw [List.mem_singleton.1 ha]; exact (hv b hb).2
  rw [List.mem_singleton.1 ha,List.mem_singleton.1 hb]; exact hww
theorem asc2:[(48:UInt8),49].Pairwise (· < ·):=by decide
theorem qp5 (r:Nat):(mrgs r).Pairwise (· < ·):=qiT asc2 r
theorem qnw (h2:g.1=2) (n:Nat):(qcp g n).Pairwise (· < ·):=by
 unfold qcp;rw [qrA h2];exact (qiT asc2 n).filter _
theorem qlR {l:List (List UInt8)} (h:l.Pairwise (· < ·)):l.Nodup:=h.imp fun h e=>by subst e; exact qmX _ h
theorem qp4 (r:Nat):(mrgs r).length=2 ^ r:=qhD _ _
theorem qqX {l:List (List UInt8)} {n:Nat} (hne:l≠[]) (h:∀ x∈l,x.length=n):qam l=n:=by
 cases l with
 | nil=>exact absurd rfl hne
 | cons x l=>exact h x (List.mem_cons_self ..)
theorem qqt (hv:VG g) (h2:g.1=2) {n r m:Nat} (hn1:1≤n) (hn:n≤6) (hr:r≤3) (hm1:1≤m) (hm:m≤(qdi g n r).length):VJ ((qdi g n r).take m,mrgs r) g:=by
 have hT:=qhN (g:=g) (r:=r) h2 hn;have hmem:∀ x∈(qdi g n r).take m,x∈qcp g n:=fun x hx=>qnD (List.mem_of_mem_take hx)
 have hlen:((qdi g n r).take m).length=m:=by rw [List.length_take]; omega
 have hne:(qdi g n r).take m≠[]:=fun h=>by rw [h] at hlen; simp at hlen; omega
 have hml:=qp4 r;have hpow:1≤2 ^ r:=Nat.one_le_two_pow
 have hne2:mrgs r≠[]:=fun h=>by rw [h] at hml; simp at hml; omega
 have hsm:=qkB hr;have hf1:=qqX hne fun x hx=>(qe9 h2 (hmem x hx)).1;have hf2:qam (mrgs r)=r:=qqX hne2 fun x hx=>(qeq.1 hx).1;refine ⟨hv,h2,⟨hne,hne2,by dsimp only; omega,?_,fun x hx=>?_,fun x hx=>?_,by dsimp only; omega,by dsimp only; omega,by dsimp only; omega,fun x hx=>(qe9 h2 (hmem x hx)).2,fun x hx=>(hsm.2 x hx).1,?_,qlR (qp5 r)⟩,fun x hx=>?_,fun a ha b hb=>?_⟩
 ·have:2 ^ r≤2 ^ 3:=Nat.pow_le_pow_right (by decide) hr
  dsimp only;omega
 ·rw [hf1]; exact (qe9 h2 (hmem x hx)).1
 ·rw [hf2]; exact (qeq.1 hx).1
 ·exact qlR (((qnw h2 n).sublist (qnC n r)).sublist (List.take_sublist _ _))
 ·exact (List.mem_filter.1 (hmem x hx)).2
 exact qi2 (g:=g) (mrgs r) (qcp g n) [] (fun _ h=>nomatch h) a (List.mem_of_mem_take ha) b (List.mem_of_mem_take hb)
end
def encG (j:Jn) (g:Gr):List Int→List UInt8→Int→List Int→List UInt8 × Int
 | _,b,_,[]=>(b,0)
 | set,b,sum,x::xs =>
  if (qc8 g set sum (wd j x) j.2).2.2=true then encG j g (qbP g set ((qc8 g set sum (wd j x) j.2).1++wd j x)) (b++((qc8 g set sum (wd j x) j.2).1++wd j x)) (sum+disp ((qc8 g set sum (wd j x) j.2).1++wd j x)) xs
  else ([],13)
def encE (j:Jn) (g:Gr) (l:List Int):List UInt8 × Int :=
 if inpE j g l≠0 then ([],inpE j g l) else match l with
  | []=>([],0)
  | x::xs=>encG j g (qbP g (upto g.2.1) (wd j x)) (wd j x) (disp (wd j x)) xs
theorem qlN (g:Gr) (set:List Int) (sum:Int) (x:List UInt8):∀ (ms:List (List UInt8)) (a:List UInt8 × Int × Bool),(ms.foldl (qex g set sum x) a).1=a.1∨(ms.foldl (qex g set sum x) a).1∈ms
 | [],a=>.inl rfl
 | m::ms,a=>by
  rw [List.foldl_cons]
  rcases qlN g set sum x ms (qex g set sum x a m) with h | h
  ·rw [h]
   unfold qex;split
   ·exact .inr (List.mem_cons_self ..)
   exact .inl rfl
  exact .inr (List.mem_cons_of_mem _ h)
theorem qrT {j:Jn} {g:Gr} (hj:FormOk j) (set:List Int) (sum:Int) (x:List UInt8):bitW (qc8 g set sum x j.2).1∧(qc8 g set sum x j.2).1.length≤16:=by
 rcases qlN g set sum x j.2 ([],0,false) with h | h
 ·unfold qc8
  rw [h];exact ⟨(fun _ h=>by cases h),by simp⟩
 exact qmU hj h
def runF {σ α X:Type} (F:σ→α→Option σ) (fin:σ→X) (xr:X):List α→σ→X
 | [],s=>fin s
 | x::xs,s=>match F s x with
  | some s'=>runF F fin xr xs s'
  | none=>xr
theorem qp7 {S X σ α:Type} {body:S→Option (Stp S X)} (st:Nat→σ→S) (xs:List α) (F:σ→α→Option σ) (fin:σ→X) (xr:X) (P:Nat→σ→Prop)
  (h:∀ i s (hi:i<xs.length),P i s→body (st i s)=(match F s xs[i] with | some s'=>some (.next (st (i+1) s')) | none=>some (.exit xr))∧∀ s',F s xs[i]=some s'→P (i+1) s')
  (hf:∀ s,P xs.length s→body (st xs.length s)=some (.exit (fin s))) {s0:σ} (h0:P 0 s0):loopW body (st 0 s0)=some (runF F fin xr xs s0):=by
 have:∀ d i s,i+d=xs.length→P i s→loopW body (st i s)=some (runF F fin xr (xs.drop i) s):=by
  intro d
  induction d with
  | zero =>
   intro i s hi hP
   have e:i=xs.length:=by omega
   subst e;rw [qd1 (hf s hP),List.drop_length];rfl
  | succ d ih =>
   intro i s hi hP
   have hi':i<xs.length:=by omega
   obtain ⟨h1,h2⟩:=h i s hi' hP;rw [List.drop_eq_getElem_cons hi'];unfold runF
   cases hF:F s xs[i] with
   | none=>rw [hF] at h1; rw [qd1 h1]
   | some s'=>rw [hF] at h1; rw [qgx h1]; exact ih (i+1) s' (by omega) (h2 s' hF)
 exact this xs.length 0 s0 (by omega) h0
def encS (j:Jn) (g:Gr) (s:List Int × List UInt8 × Int) (x:Int):Option (List Int × List UInt8 × Int) :=
 if (qc8 g s.1 s.2.2 (wd j x) j.2).2.2=true then some (qbP g s.1 ((qc8 g s.1 s.2.2 (wd j x) j.2).1++wd j x),s.2.1++((qc8 g s.1 s.2.2 (wd j x) j.2).1++wd j x),s.2.2+disp ((qc8 g s.1 s.2.2 (wd j x) j.2).1++wd j x)) else none
def unOu (x:Ou (List UInt8) (List UInt8 × Int)):List UInt8 × Int:=match x with
 | .go v=>(v,0)
 | .ret r=>r
theorem qnf (j:Jn) (g:Gr):∀ (xs:List Int) (s:List Int × List UInt8 × Int),unOu (runF (encS j g) (fun s=>Ou.go s.2.1) (Ou.ret ([],13)) xs s)=encG j g s.1 s.2.1 s.2.2 xs
 | [],s=>rfl
 | x::xs,s=>by
  unfold runF encG encS;by_cases h:(qc8 g s.1 s.2.2 (wd j x) j.2).2.2=true
  ·simp only [if_pos h]
   exact qnf j g xs _
  simp only [if_neg h];rfl
theorem qlW {j:Jn} {g:Gr} (hs:SmJ j) {l:List Int} (hl:l.length≤8):qca j g l=some (encE j g l):=by
 unfold qca encE;rw [qoW hs (by omega)];simp only [Option.bind_some];by_cases h:inpE j g l≠0
 ·rw [if_pos h,if_pos h]
 rw [if_neg h,if_neg h];obtain ⟨hj,hx⟩:=qqe (Classical.not_not.1 h)
 cases l with
 | nil=>rfl
 | cons x xs =>
  have n1:=hj.f.n1;have n16:=hj.f.n16;have r16:=hj.f.r16;have hx0:=hx x (List.mem_cons_self ..);have wx:=qlY hj.f (qeP hx0);rw [if_neg (show ¬ (((x::xs).length:Int)=0) by simp only [List.length_cons]; omega),idx0 hj.f.ne1,idx0 hj.f.ne2];simp only [Option.bind_some,hdl2]
  have e1:IntKind.wrap .i64 (((qam j.1:Nat):Int)+((qam j.2:Nat):Int))=((qam j.1+qam j.2:Nat):Int):=by rw [w64 (by omega) (by omega)]; omega
  have e2:IntKind.wrap .i64 (65536+((qam j.2:Nat):Int))=((65536+qam j.2:Nat):Int):=by rw [w64 (by omega) (by omega)]; omega
  have hq:8≤(65536+qam j.2) / (qam j.1+qam j.2):=by
   rw [Nat.le_div_iff_mul_le (by omega)]; omega
  have hq2:(65536+qam j.2) / (qam j.1+qam j.2)≤65552:=Nat.le_trans (Nat.div_le_self _ _) (by omega);simp only [e1,e2,← Int.ofNat_tdiv];rw [if_pos (show ((qam j.1+qam j.2:Nat):Int)≠0 by omega),w64 (by omega) (by omega),if_neg (by omega)];have s0:=hj.hv.s0;have s1:=hj.hv.s1;rw [if_pos ⟨s0,by omega,by omega⟩];refine qfn (x:=upto g.2.1) ?_ ?_
  ·have:=qi4 hj.hv
   unfold qbz at this;rw [if_pos ⟨s0,by omega,by omega⟩] at this;obtain ⟨y,hy,hz⟩:=bS this;cases hz;exact hy
  have ei:idx (x::xs) 0=some x:=rfl;rw [ei];simp only [Option.bind_some,qof hx0,jp];have hd:=qjt (w:=wd j x);rw [if_pos ⟨by simp only [List.length_nil]; omega,by simp only [List.length_nil,maxLen]; omega⟩,qiU wx.1 (by omega),Option.bind_some,qi3 hj.hv hj.h2 (qgY g) wx.1 (by omega)];simp only [Option.bind_some];rw [if_pos ⟨by omega,by simp only [List.length_cons]; omega,by omega⟩]
  have et:((x::xs).take (((x::xs).length:Int)).toNat).drop (1:Int).toNat=xs:=by
   rw [Int.toNat_natCast,List.take_length]; rfl
  simp only [et,List.nil_append,Int.zero_add,w64 (n:=disp (wd j x)) (by omega) (by omega)];refine lpE (x:=runF (encS j g) (fun s=>Ou.go s.2.1) (Ou.ret ([],13)) xs (qbP g (upto g.2.1) (wd j x),wd j x,disp (wd j x))) ?_ ?_
  ·refine qp7 (s0:=(qbP g (upto g.2.1) (wd j x),wd j x,disp (wd j x))) (fun i (s:List Int × List UInt8 × Int)=>((i:Int),s.1,s.2.1,s.2.2)) xs (encS j g) (fun s=>Ou.go s.2.1) (Ou.ret ([],13)) (fun i s=>qd2 g s.1∧s.2.1.length≤32*(i+1) ∧ -(32*(i+1):Int)≤s.2.2∧s.2.2≤32*(i+1)) (fun i s hi hP=>?_) (fun s _=>?_) ⟨qhw (qgY g) _,by dsimp only; omega,by dsimp only; omega,by dsimp only; omega⟩
   ·obtain ⟨p1,p2,p3,p4⟩:=hP
    have hi8:i<8:=by simp only [List.length_cons] at hl; omega
    have hxi:=hx xs[i] (List.mem_cons_of_mem _ (List.getElem_mem hi));have wi:=qlY hj.f (qeP hxi);have bo:=qrT (g:=g) hj.f s.1 s.2.2 (wd j xs[i]);have hb:=qph hj p1 (sum:=s.2.2) (by omega) hxi;simp only [jp] at hb;have hd2:=qjt (w:=(qc8 g s.1 s.2.2 (wd j xs[i]) j.2).1++wd j xs[i])
    have hlen:((qc8 g s.1 s.2.2 (wd j xs[i]) j.2).1++wd j xs[i]).length≤32:=by simp only [List.length_append]; omega
    have hbw:bitW ((qc8 g s.1 s.2.2 (wd j xs[i]) j.2).1++wd j xs[i]):=qe2.2 ⟨bo.1,wi.1⟩;constructor
    ·simp only
     rw [if_pos (qbJ hi),ix hi];simp only [Option.bind_some];rw [hb];simp only [Option.bind_some,encS];by_cases hf:(qc8 g s.1 s.2.2 (wd j xs[i]) j.2).2.2=true
     ·rw [if_neg (by simp [hf]),qof hxi,if_pos hf]
      simp only [Option.bind_some];rw [if_pos (by simp only [maxLen]; omega),if_pos ⟨by omega,by simp only [maxLen]; omega⟩,qiU hbw (by omega),Option.bind_some,qi3 hj.hv hj.h2 p1 hbw (by omega)];simp only [Option.bind_some];rw [w64 (n:=s.2.2+_) (by omega) (by omega),nx (show xs.length≤9223372036854775807 by simp only [List.length_cons] at hl; omega) hi]
     rw [if_pos (by simp [hf]),if_neg hf]
    intro s' hs';unfold encS at hs';split at hs'
    ·cases hs'
     exact ⟨qhw p1 _,by simp only [List.length_append] at hlen ⊢; omega,by simp only; omega,by simp only; omega⟩
    cases hs'
   simp only;rw [if_neg (qaB _)]
  have:=qnf j g xs (qbP g (upto g.2.1) (wd j x),wd j x,disp (wd j x));rw [← this];unfold unOu;split
  ·rename_i v hv; rw [hv]; rfl
  rename_i r hr; rw [hr]; rfl
theorem qni (u v:List UInt8):disp (u++v)=disp u+disp v:=by
 simp only [disp,List.count_append,List.length_append];omega
def encB (j:Jn) (g:Gr):List UInt8→List Int→List UInt8 × Int
 | b,[]=>(b,0)
 | b,x::xs =>
  if (qc8 g (qbP g (upto g.2.1) b) (disp b) (wd j x) j.2).2.2=true then encB j g (b++((qc8 g (qbP g (upto g.2.1) b) (disp b) (wd j x) j.2).1++wd j x)) xs else ([],13)
theorem qpa (j:Jn) (g:Gr):∀ (xs:List Int) (b:List UInt8),encG j g (qbP g (upto g.2.1) b) b (disp b) xs=encB j g b xs
 | [],b=>rfl
 | x::xs,b=>by
  unfold encG encB;split
  ·rw [← qec,← qni]
   exact qpa j g xs _
  rfl
theorem FormOk.zero {j:Jn} (h:FormOk j):qgi j=0:=by
 have l1:=h.l1; have l2:=h.l2; have n1:=h.n1; have n16:=h.n16; have r16:=h.r16;unfold qgi;rw [if_neg (fun e=>e.elim h.ne1 h.ne2),if_neg (by omega),if_neg (fun e=>e.elim (fun e=>qkq.1 e h.n) fun e=>qkq.1 e h.r),if_neg (by omega),if_neg (fun e=>e.elim (fun e=>qkK.1 e h.b1) fun e=>qkK.1 e h.b2),if_neg (fun e=>e.elim (fun e=>qky.1 e h.d1) fun e=>qky.1 e h.d2)]
theorem VJ.zero {j:Jn} {g:Gr} (h:VJ j g):qfm j g=0:=by
 unfold qfm;rw [if_neg (fun e=>e h.hv),if_neg (fun e=>e h.h2),if_neg (fun e=>e h.f.zero),if_neg,if_neg]
 ·simp only [badP,List.any_eq_true,not_exists,not_and]
  intro a ha b hb;rw [h.p a ha b hb];decide
 simp only [badW,List.any_eq_true,not_exists,not_and];intro a ha;rw [h.w a ha];decide
def InOk (j:Jn) (l:List Int):Prop:=∀ n∈l,0≤n∧n.toNat<j.1.length
theorem VJ.inp {j:Jn} {g:Gr} (h:VJ j g) {l:List Int} (hl:InOk j l):inpE j g l=0:=by
 unfold inpE;rw [if_neg (fun e=>e h.zero),if_neg];simp only [List.any_eq_true,not_exists,not_and,badI,decide_eq_true_eq];intro n hn;have:=hl n hn;omega
def encL (j:Jn) (g:Gr) (l:List Int):List UInt8 × Int:=match l with
 | []=>([],0)
 | x::xs=>encB j g (wd j x) xs
theorem qpb {j:Jn} {g:Gr} {l:List Int} (h:inpE j g l=0):encE j g l=encL j g l:=by
 unfold encE encL;rw [if_neg (fun e=>e h)]
 cases l with
 | nil=>rfl
 | cons x xs=>exact qpa j g xs _
def bstM (j:Jn) (g:Gr) (b:List UInt8) (x:Int):List UInt8 × Int × Bool:=qc8 g (qbP g (upto g.2.1) b) (disp b) (wd j x) j.2
theorem qgm (j:Jn) (g:Gr) (b:List UInt8) (x:Int) (xs:List Int):encB j g b (x::xs)=if (bstM j g b x).2.2=true then encB j g (b++((bstM j g b x).1++wd j x)) xs else ([],13):=rfl
theorem qng (j:Jn) (g:Gr):∀ (xs:List Int) (b:List UInt8),(encB j g b xs).2≠0→encB j g b xs=([],13)
 | [],b=>fun h=>absurd rfl h
 | x::xs,b=>by
  rw [qgm];split
  ·exact qng j g xs _
  exact fun _=>rfl
theorem qnh (j:Jn) (g:Gr) (ys:List Int):∀ (xs:List Int) (b:List UInt8),encB j g b (xs++ys)=if (encB j g b xs).2=0 then encB j g (encB j g b xs).1 ys else ([],13)
 | [],b=>by simp [encB]
 | x::xs,b=>by
  rw [List.cons_append,qgm,qgm];split
  ·exact qnh j g ys xs _
  rfl
theorem qo9 (j:Jn) (g:Gr) {l:List Int} (h:l≠[]) (x:Int):encL j g (l++[x])=if (encL j g l).2=0 then (if (bstM j g (encL j g l).1 x).2.2=true then ((encL j g l).1++((bstM j g (encL j g l).1 x).1++wd j x),0) else ([],13)) else ([],13):=by
 cases l with
 | nil=>exact absurd rfl h
 | cons a l =>
  show encB j g (wd j a) (l++[x])=_;rw [qnh];rfl
theorem qqr (j:Jn) (g:Gr) (l:List Int) (h:(encL j g l).2≠0):encL j g l=([],13):=by
 cases l with
 | nil=>exact absurd rfl h
 | cons x xs=>exact qng j g xs _ h
theorem qsm (g:Gr) (b m x:List UInt8):(qbP g (qbP g (upto g.2.1) b) (m++x)≠[])↔inW g (b++(m++x))=true:=by
 rw [← qec];simp [inW]
def far (w:List UInt8):Int:=max (disp w) (-disp w)
theorem qpN (g:Gr) (b m x:List UInt8):qjR g (qbP g (upto g.2.1) b) (disp b) x m=(far (b++(m++x)),inW g (b++(m++x))):=by
 unfold qjR far;rw [← qni,Prod.mk.injEq];refine ⟨rfl,?_⟩;rw [Bool.eq_iff_iff,decide_eq_true_eq,qsm]
structure Bst (g:Gr) (b x:List UInt8) (ms:List (List UInt8)) (A:List UInt8 × Int × Bool):Prop where
 no:A.2.2=false→∀ k (h:k<ms.length),inW g (b++(ms[k]++x))=false
 yes:A.2.2=true→∃ i,∃ h:i<ms.length,A.1=ms[i]∧A.2.1=far (b++(ms[i]++x))∧inW g (b++(ms[i]++x))=true ∧
  (∀ k (hk:k<ms.length),inW g (b++(ms[k]++x))=true→A.2.1≤far (b++(ms[k]++x))) ∧
  (∀ k (hk:k<i),inW g (b++(ms[k]++x))=true→A.2.1<far (b++(ms[k]++x)))
theorem qpg (g:Gr) (b x:List UInt8) (ms:List (List UInt8)):∀ n,n≤ms.length→Bst g b x (ms.take n) (qc8 g (qbP g (upto g.2.1) b) (disp b) x (ms.take n)):=by
 intro n
 induction n with
 | zero=>intro _; exact ⟨(fun _ k h=>absurd h (by simp)),(fun h=>absurd h (by simp [qc8]))⟩
 | succ n ih =>
  intro hn
  have hn':n<ms.length:=by omega
  have ih:=ih (by omega)
  have es:qc8 g (qbP g (upto g.2.1) b) (disp b) x (ms.take (n+1))=qex g (qbP g (upto g.2.1) b) (disp b) x (qc8 g (qbP g (upto g.2.1) b) (disp b) x (ms.take n)) ms[n]:=by
   unfold qc8;rw [← List.take_append_getElem hn',List.foldl_append];rfl
  rw [es];generalize qc8 g (qbP g (upto g.2.1) b) (disp b) x (ms.take n)=A at ih
  have lt:(ms.take n).length=n:=by rw [List.length_take]; omega
  have lt':(ms.take (n+1)).length=n+1:=by rw [List.length_take]; omega
  have gt:∀ k (h:k<(ms.take n).length),(ms.take n)[k]=ms[k]'(by omega):=fun k h=>List.getElem_take;have gt':∀ k (h:k<(ms.take (n+1)).length),(ms.take (n+1))[k]=ms[k]'(by omega):=fun k h=>List.getElem_take;unfold qex;rw [qpN];simp only;by_cases hc:inW g (b++(ms[n]++x))=true∧(A.2.2=false∨far (b++(ms[n]++x))<A.2.1)
  ·rw [if_pos hc]
   refine ⟨(fun h=>absurd h (by simp)),fun _=>⟨n,by omega,?_⟩⟩;rw [gt' n (by omega)];refine ⟨rfl,rfl,hc.1,fun k hk hi=>?_,fun k hk hi=>?_⟩
   ·rw [gt' k hk] at hi ⊢
    by_cases e:k=n
    ·subst e; exact Int.le_refl _
    have hkn:k<(ms.take n).length:=by omega
    cases hA:A.2.2 with
    | false =>
     have:=ih.no hA k hkn;rw [gt k hkn,hi] at this;cases this
    | true =>
     obtain ⟨i,hi',a1,a2,a3,a4,a5⟩:=ih.yes hA;have:=a4 k hkn (by rw [gt k hkn]; exact hi);rw [gt k hkn] at this
     rcases hc.2 with h | h
     ·rw [hA] at h; cases h
     simp only; omega
   rw [gt' k (by omega)] at hi ⊢
   have hkn:k<(ms.take n).length:=by omega
   cases hA:A.2.2 with
   | false =>
    have:=ih.no hA k hkn;rw [gt k hkn,hi] at this;cases this
   | true =>
    obtain ⟨i,hi',a1,a2,a3,a4,a5⟩:=ih.yes hA;have:=a4 k hkn (by rw [gt k hkn]; exact hi);rw [gt k hkn] at this
    rcases hc.2 with h | h
    ·rw [hA] at h; cases h
    simp only; omega
  rw [if_neg hc];refine ⟨fun h k hk=>?_,fun h=>?_⟩
  ·rw [gt' k hk]
   by_cases e:k=n
   ·subst e
    rw [Bool.eq_false_iff];exact fun hi=>hc ⟨hi,.inl h⟩
   have hkn:k<(ms.take n).length:=by omega
   have:=ih.no h k hkn;rw [gt k hkn] at this;exact this
  obtain ⟨i,hi',a1,a2,a3,a4,a5⟩:=ih.yes h;rw [gt i hi'] at a1 a2 a3;refine ⟨i,by omega,?_⟩;rw [gt' i (by omega)];refine ⟨a1,a2,a3,fun k hk hi=>?_,fun k hk hi=>?_⟩
  ·rw [gt' k hk] at hi ⊢
   by_cases e:k=n
   ·subst e
    refine Classical.byContradiction fun hlt=>hc ⟨hi,.inr (by omega)⟩
   have hkn:k<(ms.take n).length:=by omega
   have:=a4 k hkn (by rw [gt k hkn]; exact hi);rw [gt k hkn] at this;exact this
  have hkn:k<(ms.take n).length:=by omega
  rw [gt' k (by omega)] at hi ⊢;have:=a5 k hk (by rw [gt k hkn]; exact hi);rw [gt k hkn] at this;exact this
theorem qkU (j:Jn) (g:Gr) (b:List UInt8) (x:Int):Bst g b (wd j x) j.2 (bstM j g b x):=by
 have:=qpg g b (wd j x) j.2 j.2.length (Nat.le_refl _);rw [List.take_length] at this;exact this
inductive Wr (j:Jn):List Int→List UInt8→Prop
 | one (x:Int):Wr j [x] (wd j x)
 | snoc {l:List Int} {w:List UInt8} {m:List UInt8} (x:Int):Wr j l w→m∈j.2→Wr j (l++[x]) (w++(m++wd j x))
theorem qpM {α:Type} {P:List α→Prop} (h0:P []) (h1:∀ l x,P l→P (l++[x])) (l:List α):P l:=by
 have:∀ n,n≤l.length→P (l.take n):=by
  intro n
  induction n with
  | zero=>intro _; exact h0
  | succ n ih =>
   intro hn;rw [← List.take_append_getElem (show n<l.length by omega)];exact h1 _ _ (ih (by omega))
 have h:=this l.length (Nat.le_refl _)
 rwa [List.take_length] at h
theorem qo8 {j:Jn} {g:Gr} (hj:VJ j g):∀ l:List Int,InOk j l→l≠[]→(encL j g l).2=0→Wr j l (encL j g l).1∧inW g (encL j g l).1=true:=by
 refine qpM (fun _ h=>absurd rfl h) (fun l x ih hl _ h0=>?_);by_cases hn:l=[]
 ·subst hn
  exact ⟨.one x,hj.w _ (qeP (hl x (by simp)))⟩
 have hs:=qo9 j g hn x;rw [hs] at h0 ⊢;split at h0
 ·rename_i he
  rw [if_pos he];obtain ⟨i1,i2⟩:=ih (fun n h=>hl n (List.mem_append.2 (.inl h))) hn he;split at h0
  ·rename_i hb
   rw [if_pos hb];obtain ⟨i,hi,a1,a2,a3,_⟩:=(qkU j g (encL j g l).1 x).yes hb;refine ⟨.snoc x i1 ?_,?_⟩
   ·rw [a1]; exact List.getElem_mem hi
   simp only;rw [a1]; exact a3
  cases h0
 cases h0
theorem Wr.ne {j:Jn} {l:List Int} {w:List UInt8} (h:Wr j l w):l≠[]:=by
 cases h <;> simp
theorem Wr.len {j:Jn} (hj:FormOk j) {l:List Int} {w:List UInt8} (h:Wr j l w) (hl:InOk j l):w.length+qam j.2=l.length*(qam j.1+qam j.2):=by
 induction h with
 | one x =>
  rw [hj.n _ (qeP (hl x (by simp)))];simp
 | snoc x h hm ih =>
  have:=ih (fun n h=>hl n (List.mem_append.2 (.inl h)));have hx:=hj.n _ (qeP (hl x (by simp)));have hr:=hj.r _ hm;simp only [List.length_append,List.length_singleton,Nat.succ_mul];rw [← this];omega
theorem Wr.bits {j:Jn} (hj:FormOk j) {l:List Int} {w:List UInt8} (h:Wr j l w) (hl:InOk j l):bitW w:=by
 induction h with
 | one x=>exact hj.b1 _ (qeP (hl x (by simp)))
 | snoc x h hm ih=>exact qe2.2 ⟨ih (fun n h=>hl n (List.mem_append.2 (.inl h))),qe2.2 ⟨hj.b2 _ hm,hj.b1 _ (qeP (hl x (by simp)))⟩⟩
theorem qon {u v:List UInt8} {a l:Nat} (h:a+l≤u.length):sub (u++v) a l=sub u a l:=by
 unfold sub;rw [List.drop_append_of_le_length (by omega),List.take_append_of_le_length (by rw [List.length_drop]; omega)]
theorem qkr {u v:List UInt8} {a l:Nat} (ha:a=u.length) (hl:l=v.length) (z:List UInt8):sub (u++(v++z)) a l=v:=by
 subst ha hl;unfold sub;rw [List.drop_left,List.take_left]
theorem Wr.piece {j:Jn} (hj:FormOk j) {l:List Int} {w:List UInt8} (h:Wr j l w) (hl:InOk j l):∀ i (hi:i<l.length),qgb j w i=wd j l[i]∧(0<i→qic j w i∈j.2):=by
 have n1:=hj.n1
 induction h with
 | one x =>
  intro i hi
  have hi0:i=0:=by simp at hi; omega
  subst hi0;have hx:=hj.n _ (qeP (hl x (by simp)));refine ⟨?_,fun h=>by omega⟩;have:=qkr (u:=[]) (v:=wd j x) (a:=0) (l:=qam j.1) rfl hx.symm [];simp only [List.nil_append,List.append_nil] at this;simp only [qgb,Nat.zero_mul,this,List.getElem_cons_zero]
 | @snoc l w m x h hm ih =>
  have hl':InOk j l:=fun n h=>hl n (List.mem_append.2 (.inl h));have ih:=ih hl';have hlen:=h.len hj hl';have hx:=hj.n _ (qeP (hl x (by simp)));have hr:=hj.r _ hm;intro i hi;simp only [List.length_append,List.length_singleton] at hi;by_cases h1:i<l.length
  ·obtain ⟨q1,q2⟩:=ih i h1
   have hb:i*(qam j.1+qam j.2)+(qam j.1+qam j.2)≤l.length*(qam j.1+qam j.2):=by
    rw [← Nat.succ_mul]; exact Nat.mul_le_mul_right _ h1
   rw [List.getElem_append_left h1];constructor
   ·rw [← q1]
    exact qon (by omega)
   intro h0;have:=q2 h0
   have e:qic j (w++(m++wd j x)) i=qic j w i:=qon (by
    have:qam j.1+qam j.2≤i*(qam j.1+qam j.2):=Nat.le_mul_of_pos_left _ h0
    omega)
   rw [e];exact this
  have e:i=l.length:=by omega
  subst e;rw [List.getElem_append_right (Nat.le_refl _)];simp only [Nat.sub_self,List.getElem_cons_zero];have hl0:=List.length_pos_iff.2 h.ne;have:qam j.1+qam j.2≤l.length*(qam j.1+qam j.2):=Nat.le_mul_of_pos_left _ hl0;constructor
  ·have:=qkr (u:=w++m) (v:=wd j x) (a:=l.length*(qam j.1+qam j.2)) (l:=qam j.1) (by rw [List.length_append]; omega) hx.symm []
   rw [List.append_nil,List.append_assoc] at this;exact this
  intro _;have:=qkr (u:=w) (v:=m) (a:=l.length*(qam j.1+qam j.2) - qam j.2) (l:=qam j.2) (by omega) hr.symm (wd j x);show sub _ _ _∈_;rw [this];exact hm
theorem qql {j:Jn} (hj:FormOk j) {n:Int} (hn:0≤n∧n.toNat<j.1.length):(qe1 j.1 fun y=>decide (wd j n=y))=n:=by
 have hw:wd j n=j.1[n.toNat]:=qqh hn.2 [];have ha:(j.1.any fun y=>decide (wd j n=y))=true:=List.any_eq_true.2 ⟨_,qeP hn,by simp⟩;unfold qe1;rw [if_pos ha]
 have:j.1.findIdx (fun y=>decide (wd j n=y))=n.toNat:=by
  rw [List.findIdx_eq hn.2];refine ⟨by simp [hw],fun k hk=>?_⟩;rw [decide_eq_false_iff_not,hw];intro e;refine nodup_iff.1 hj.d1 n.toNat hn.2 ?_;rw [e]
  have hq:k<(j.1.take n.toNat).length:=by rw [List.length_take]; omega
  have:=List.getElem_mem hq
  rwa [List.getElem_take] at this
 rw [this];omega
theorem Wr.read {j:Jn} (hj:FormOk j) {l:List Int} {w:List UInt8} (h:Wr j l w) (hl:InOk j l):decE j w=(l,0):=by
 have n1:=hj.n1;have hlen:=h.len hj hl;have hl0:=List.length_pos_iff.2 h.ne;have hp:=h.piece hj hl;have:qam j.1+qam j.2≤l.length*(qam j.1+qam j.2):=Nat.le_mul_of_pos_left _ hl0
 have hk:kW j w=l.length:=by
  unfold kW;rw [hlen,Nat.mul_div_cancel _ (by omega)]
 unfold decE;rw [if_neg (fun e=>e hj.zero),if_neg (by intro e; subst e; simp only [List.length_nil] at hlen; omega),if_neg (fun e=>e (by rw [hlen]; exact Nat.mul_mod_left ..)),hk]
 have hb:∀ t,t<l.length→badT j w t=false:=fun t ht=>by
  obtain ⟨q1,q2⟩:=hp t ht
  have q3:qgb j w t∈j.1:=by rw [q1]; exact qeP (hl _ (List.getElem_mem ht))
  unfold badT;rw [decide_eq_false (fun e=>e.2 (q2 e.1)),decide_eq_false (fun e=>e q3)];rfl
 have ho:outT j w l.length=l:=by
  refine List.ext_getElem (qmQ ..) fun i h1 h2=>?_;have q:=(hp i h2).1;simp only [outT,List.getElem_map,List.getElem_range,q];exact qql hj (hl _ (List.getElem_mem h2))
 rcases qfk (X:=Ou (List Int) (List Int × Int)) (badT j w) (fun _=>Ou.ret ([],13)) (Ou.go (outT j w l.length)) l.length 0 with ⟨i,_,h2,h3,_⟩ | ⟨_,h5⟩
 ·rw [hb i (by omega)] at h3
  cases h3
 rw [h5,ho]
theorem qp9 {j:Jn} (h0:j.1≠[]) (l:List Int):InOk j (qnS j l)∧(qnS j l).length≤8:=by
 have l0:=List.length_pos_iff.2 h0;constructor
 ·intro n hn
  obtain ⟨x,_,rfl⟩:=List.mem_map.1 hn;have h1:=Int.emod_nonneg x (show (j.1.length:Int)≠0 by omega);have h2:=Int.emod_lt_of_pos x (show 0<(j.1.length:Int) by omega);omega
 simp only [qnS,List.length_map,List.length_take];omega
theorem qne {j:Jn} {g:Gr} (hj:VJ j g) {l:List Int} (hl:InOk j l) (h:(encL j g l).2≠0):2<l.length:=by
 match l,hl,h with
 | [],_,h=>exact absurd rfl h
 | [x],_,h=>exact absurd rfl h
 | [x,y],hl,h =>
  exfalso;apply h;have hx:=qeP (hl x (by simp));have hy:=qeP (hl y (by simp));show (encB j g (wd j x) [y]).2=0;rw [qgm]
  cases hb:(bstM j g (wd j x) y).2.2 with
  | true=>rfl
  | false =>
   have hn:=(qkU j g (wd j x) y).no hb;obtain ⟨m,hm,hi⟩:=List.any_eq_true.1 (hj.p _ hx _ hy);obtain ⟨k,hk,rfl⟩:=List.getElem_of_mem hm;rw [List.append_assoc,hn k hk] at hi;cases hi
 | _::_::_::_,_,_=>simp only [List.length_cons]; omega
theorem VJ.acc {j:Jn} {g:Gr} (hj:VJ j g) {w:List UInt8} (hb:bitW w) (hl:w.length≤65536):qa5 g w=some (inW g w,0):=by
 have:=hj.h2;exact qgE hj.hv (by omega) (qmx hj.h2 hb hl)
theorem qqZ (j:Jn) (g:Gr) (x y:Int):encL j g [x,y]=if (bstM j g (wd j x) y).2.2=true then (wd j x++((bstM j g (wd j x) y).1++wd j y),0) else ([],13):=by
 show encB j g (wd j x) [y]=_;rw [qgm];rfl
theorem qqm {j:Jn} {g:Gr} {ms:List (List UInt8)} (k:Nat) (hms:ms=j.2.take k) {x y:Int} (h:(bstM j g (wd j x) y).2.2=true) (h':(bstM (j.1,ms) g (wd j x) y).2.2=true) :
  far (wd j x++((bstM j g (wd j x) y).1++wd j y))≤far (wd j x++((bstM (j.1,ms) g (wd j x) y).1++wd j y)):=by
 obtain ⟨i,hi,a1,a2,a3,a4,_⟩:=(qkU j g (wd j x) y).yes h;obtain ⟨i',hi',b1,b2,b3,b4,_⟩:=(qkU (j.1,ms) g (wd j x) y).yes h';rw [a1,b1,← a2];have hi2:i'<ms.length:=hi'
 have hlt:i'<j.2.length:=by rw [hms,List.length_take] at hi2; omega
 have e:ms[i']=j.2[i']:=by subst hms; rw [List.getElem_take]
 have e2:(j.1,ms).2[i']=j.2[i']:=e
 have b3':inW g (wd j x++(j.2[i']++wd j y))=true:=by rw [← e2]; exact b3
 have:=a4 i' hlt b3';rw [e2];exact this
set_option maxHeartbeats 1000000 in
theorem qmk (g:Gr) (a b c:UInt8) (l:List Int) (hx:∀ x∈l,0≤x∧x≤255) (hm:l.length≤9223372036854775807):qdr g (a.toNat:Int) (b.toNat:Int) (c.toNat:Int) l=some true:=by
 have ha:=a.toNat_lt;have hb:=b.toNat_lt;have hc:=c.toNat_lt;generalize a.toNat=p1 at ha;generalize b.toNat=p2 at hb;generalize c.toNat=p3 at hc;obtain ⟨gr,hgr,_⟩:=qpC g
 have e1:IntKind.wrap .i64 ((Int.tmod (IntKind.wrap .i64 (p1:Int)) 5)+1)=((p1 % 5+1:Nat):Int):=by
  rw [w64 (n:=(p1:Int)) (by omega) (by omega),show Int.tmod (p1:Int) 5=((p1 % 5:Nat):Int) from (Int.ofNat_tmod p1 5).symm,w64 (by omega) (by omega)];omega
 have e2:Int.tmod (IntKind.wrap .i64 (p2:Int)) 4=((p2 % 4:Nat):Int):=by
  rw [w64 (n:=(p2:Int)) (by omega) (by omega)];exact (Int.ofNat_tmod p2 4).symm
 have e3:IntKind.wrap .i64 ((Int.tmod (IntKind.wrap .i64 (p3:Int)) 6)+1)=((p3 % 6+1:Nat):Int):=by
  rw [w64 (n:=(p3:Int)) (by omega) (by omega),show Int.tmod (p3:Int) 6=((p3 % 6:Nat):Int) from (Int.ofNat_tmod p3 6).symm,w64 (by omega) (by omega)];omega
 unfold qdr;simp only [e1,e2,e3];rw [hgr,Option.bind_some];by_cases hG:gr=true
 ·rw [if_pos hG]; rfl
 rw [if_neg hG];have hn6:p1 % 5<5:=Nat.mod_lt _ (by decide);have hr4:p2 % 4<4:=Nat.mod_lt _ (by decide);have hm8:p3 % 6<6:=Nat.mod_lt _ (by decide);generalize p1 % 5=n0 at hn6;generalize p2 % 4=r at hr4;generalize p3 % 6=m0 at hm8;clear e1 e2 e3;obtain ⟨x,hxx, -, -, -,hx0,hxe⟩:=qob g (n:=((n0+1:Nat):Int)) (r:=(r:Int)) (m:=((m0+1:Nat):Int)) (by omega) (by omega) (by omega);rw [hxx,Option.bind_some];by_cases hz:x.2=0
 case neg=>rw [if_pos hz]; rfl
 rw [if_neg (fun h=>h hz)];obtain ⟨hv,h2,he,hd,hi,n',r',m',en,er,em,hn1,hn,hr,hm1,hmm,hxb⟩:=hx0 hz
 obtain rfl:n'=n0+1:=by omega
 obtain rfl:r'=r:=by omega
 obtain rfl:m'=m0+1:=by omega
 subst hxb
 have hle:m0+1≤(qdi g (n0+1) r').length:=by
  unfold bldE at hz;split at hz
  ·assumption
  exact absurd hz (by decide)
 have hE:bldE g (n0+1) r' (m0+1)=(((qdi g (n0+1) r').take (m0+1),mrgs r'),0):=by unfold bldE; rw [if_pos hle]
 have hj:=qqt hv h2 hn1 hn hr hm1 hle
 have hlen:((qdi g (n0+1) r').take (m0+1)).length=m0+1:=by rw [List.length_take]; omega
 obtain ⟨j,hjj⟩:∃ j:Jn,j=((qdi g (n0+1) r').take (m0+1),mrgs r'):=⟨_,rfl⟩;rw [← hjj] at hE hj
 have hj1:j.1.length=m0+1:=by rw [hjj]; exact hlen
 rw [hE];dsimp only;clear hE hz hxx hxe hx0 hjj hle hlen;have n16:=hj.f.n16;have r16:=hj.f.r16;have h256:=hj.f.l1;have m256:=hj.f.l2;have l2:=List.length_pos_iff.2 hj.f.ne2;have hlist:=qoP hj.f.ne1 hx hm;unfold qgf at hlist;rw [if_pos ⟨by omega,by omega,by omega⟩,hj1] at hlist;rw [if_pos ⟨by omega,by omega,by omega⟩]
 have hb:∀ {o:Option (List Int)} {r:List Int},(o.bind fun a12=>some a12)=some r→o=some r:=fun {o r} h=>by cases o with
  | none=>exact h
  | some a=>exact h
 rw [hb hlist];obtain ⟨hL,hL8⟩:=qp9 hj.f.ne1 l;generalize qnS j l=L at hL hL8;simp only [Option.bind_some];rw [qlW hj.f.sm hL8,qpb (hj.inp hL)];simp only [Option.bind_some];by_cases he:(encL j g L).2≠0
 ·have h3:=qne hj hL he
  rw [if_pos he,qqr j g L he];unfold jp;dsimp only;rw [if_pos rfl,if_pos (by omega)];rfl
 rw [if_neg he];have he:=Classical.not_not.1 he
 have hfacts:bitW (encL j g L).1∧(encL j g L).1.length≤1000∧decE j (encL j g L).1=(L,0)∧(inW g (encL j g L).1=true∨(encL j g L).1=[]):=by
  by_cases hn:L=[]
  ·subst hn
   have ew:(encL j g []).1=[]:=rfl;rw [ew];refine ⟨(fun _ h=>by cases h),by simp,?_,.inr rfl⟩;unfold decE;rw [if_neg (fun e=>e hj.f.zero),if_pos rfl]
  obtain ⟨hw,hi⟩:=qo8 hj L hL hn he;have hlen:=hw.len hj.f hL;have hP:L.length*(qam j.1+qam j.2)≤8*32:=Nat.mul_le_mul hL8 (by omega);exact ⟨hw.bits hj.f hL,by omega,hw.read hj.f hL,.inl hi⟩
 obtain ⟨f1,f2,f3,f4⟩:=hfacts;rw [hj.acc f1 (by omega),qpD hj.f.sm (by omega),f3];simp only [Option.bind_some];generalize hK:(fun (a36:Bool)=>(_:Option Bool))=K
 have hF:K false=some true:=by
  subst hK;dsimp only;rw [if_neg (by decide)];generalize hK2:(fun (a39:Bool)=>(_:Option Bool))=K2
  have hT2:K2 true=some true:=by subst hK2; rfl
  have hF2:L.length=2→2≤j.2.length→K2 false=some true:=by
   intro hL2 hm2;subst hK2;dsimp only;rw [if_neg (by decide)]
   have hw1:IntKind.wrap .i64 (((j.2.length:Nat):Int) - 1)=((j.2.length - 1:Nat):Int):=by rw [w64 (by omega) (by omega)]; omega
   rw [hw1,if_pos ⟨by omega,by omega,by omega⟩,Int.toNat_natCast,Int.toNat_zero,List.drop_zero];have hsm:SmJ (j.1,j.2.take (j.2.length - 1)):=⟨hj.f.sm.1,⟨by have:=hj.f.sm.2.1; simp only [List.length_take]; omega,fun w hw=>hj.f.sm.2.2 w (List.mem_of_mem_take hw)⟩⟩;rw [qkj hsm];simp only [Option.bind_some];by_cases hc0:qfm (j.1,j.2.take (j.2.length - 1)) g≠0
   ·rw [if_pos hc0]; rfl
   rw [if_neg hc0];have hj':=qjx (Classical.not_not.1 hc0);have hL':InOk (j.1,j.2.take (j.2.length - 1)) L:=hL;rw [qlW hsm hL8,qpb (hj'.inp hL')];simp only [Option.bind_some]
   have he':(encL (j.1,j.2.take (j.2.length - 1)) g L).2=0:=by
    refine Classical.byContradiction fun h=>?_;have:=qne hj' hL' h;omega
   have hn:L≠[]:=by intro e; rw [e] at hL2; cases hL2
   obtain ⟨hw',_⟩:=qo8 hj' L hL' hn he';have hlen':=hw'.len hj'.f hL';have n16':=hj'.f.n16;have r16':=hj'.f.r16;have hP':L.length*(qam (j.1,j.2.take (j.2.length - 1)).1+qam (j.1,j.2.take (j.2.length - 1)).2)≤8*32:=Nat.mul_le_mul hL8 (by omega);have hb':=hw'.bits hj'.f hL';rw [qgs f1 (by omega),qgs hb' (by omega),he'];simp only [Option.bind_some]
   have hfar:far (encL j g L).1≤far (encL (j.1,j.2.take (j.2.length - 1)) g L).1:=by
    match L,hL2,he,he' with
    | [x,y],_,he,he' =>
     rw [qqZ] at he he' ⊢;rw [qqZ]
     have q1:(bstM j g (wd j x) y).2.2=true:=by
      cases hq:(bstM j g (wd j x) y).2.2 with
      | true=>rfl
      | false=>rw [hq] at he; exact absurd (show (13:Int)=0 from he) (by decide)
     have q2:(bstM (j.1,j.2.take (j.2.length - 1)) g (wd j x) y).2.2=true:=by
      cases hq:(bstM (j.1,j.2.take (j.2.length - 1)) g (wd j x) y).2.2 with
      | true=>rfl
      | false =>
       have he2:(if (bstM (j.1,j.2.take (j.2.length - 1)) g (wd j x) y).2.2=true then (wd j x++((bstM (j.1,j.2.take (j.2.length - 1)) g (wd j x) y).1++wd j y),(0:Int)) else (([]:List UInt8),(13:Int))).2=0:=he';rw [hq] at he2; exact absurd (show (13:Int)=0 from he2) (by decide)
     have r1:(bstM (j.1,j.2.take (j.2.length - 1)) g (wd (j.1,j.2.take (j.2.length - 1)) x) y).2.2=true:=q2;rw [if_pos q1,if_pos r1];exact qqm (j.2.length - 1) rfl q1 q2
   have d1:=qjt (w:=(encL j g L).1);have d2:=qjt (w:=(encL (j.1,j.2.take (j.2.length - 1)) g L).1);unfold far at hfar
   have w1:IntKind.wrap .i64 (0 - disp (encL j g L).1) = -disp (encL j g L).1:=by rw [w64 (by omega) (by omega)]; omega
   have w2:IntKind.wrap .i64 (0 - disp (encL (j.1,j.2.take (j.2.length - 1)) g L).1) = -disp (encL (j.1,j.2.take (j.2.length - 1)) g L).1:=by rw [w64 (by omega) (by omega)]; omega
   unfold jp;dsimp only;rw [w1,w2,if_pos (by decide),if_pos hfar];rfl
  unfold jp;dsimp only;by_cases hc2:((L.length:Nat):Int)≠2
  ·rw [if_pos hc2,hT2]
  rw [if_neg hc2];by_cases hc3:((j.2.length:Nat):Int)<2
  ·rw [decide_eq_true hc3,hT2]
  rw [decide_eq_false hc3];exact hF2 (by omega) (by omega)
 unfold jp;dsimp only;rw [if_neg (by decide),if_neg (by decide)]
 have hEq:qa0 L L=some true:=by rw [qsL (by omega)]; simp
 rcases f4 with f4 | f4
 ·rw [f4,if_neg (by decide),hEq]
  exact hF
 rw [f4];by_cases hi:inW g []=true
 ·rw [hi,if_neg (by decide),hEq]
  exact hF
 have hi:inW g []=false:=by simpa using hi
 rw [hi,if_pos (by decide),if_neg (by simp),hEq];exact hF
section
open Go Go.ChangeShapes Go.WideShapes Go.ChangeAt Go.RowKit
def Kept (W W':World):Prop:=W'.os=W.os∧W'.output=W.output∧W.heap.size≤W'.heap.size∧∀ b:Nat,b<W.heap.size→W'.heap[b]?=W.heap[b]?
theorem Kept.frame {W W':World} (h:Kept W W') (may:MemPlace→Prop):W.keptBut W' may:=by
 refine ⟨h.1,h.2.1,fun i hi=>?_⟩;rw [h.2.2.2 i hi]
 cases W.heap[i]? with
 | none=>rfl
 | some o=>cases o with
  | cells c t fr=>exact ⟨rfl,rfl,rfl,fun _ _=>rfl⟩
  | map es clock=>exact .inr ⟨rfl,rfl⟩
  | _=>rfl
theorem Kept.frozen {W W':World} (h:Kept W W') (a:Addr) (ha:a.block<W.heap.size):W'.frozen? a=W.frozen? a:=by
 simp only [World.frozen?,h.2.2.2 _ ha]
def Mu.zero:Mu:={ nx:=0,loc:=fun _=>none,held:=fun _=>False }
theorem SR.zero (W:World):SR W Mu.zero [] :=
 ⟨(fun _ _ _ h=>by cases h),(fun _ _ _ h=>by cases h),(fun _ _ h=>by cases h),(fun _ _ _ _ _ h=>by cases h),(fun _ h=>h.elim)⟩
theorem qkT {P:Program} {f:FuncId} {args:List HV} {vs:List Value} {W:World} (hp:Pure P f args (· = .bool true)) (hr:RepL W Mu.zero args vs) (hgl:GlOk W Mu.zero:=by exact ⟨(fun _ h=>nomatch h),(fun _ h=>nomatch h)⟩) :
  Calls P f vs.toArray W fun e W'=>e=.returned (.bool true)∧Kept W W':=by
 refine (hp.2 Mu.zero W vs (SR.zero W) hr hgl).mono ?_
 rintro e W' ⟨v,r,H',μ',rfl,⟨rfl,_,_⟩,hs,hv,E⟩
 have hv':v=.bool true:=hv;subst hv';exact ⟨rfl,E.os,E.output,E.size,fun b hb=>E.keep b hb fun ⟨_,_,hl⟩=>by cases hl⟩
theorem qld {H:Type} {enc:TypeId × Value→H} {P:Program} {f:Func} {s:ChangeSpec} {apart fresh handsOn again:Bool} {W W':World} {args:Array Value} {v:Value} {ds gs:List (DataW H)} {before pa pv:List MemPlace}
  (hW:DataW.Whole enc P f.params.toList s.vars apart W args.toList ds gs before)
  (hres:∀ (b:Nat) (sp:Nat→Bool) (hd:Bool),DataW.TrodAll enc P W' b sp hd f.resultTypes.toList (v.resultList f.resultTypes.size) (s.fn H (ds++gs)).results [])
  (hargs:∀ sp:Nat→Bool,(∀ p∈before,sp p.block=true)→DataW.TrodAll enc P W' 0 sp true f.params.toList args.toList (s.fn H (ds++gs)).args pa)
  (hvars:∀ sp:Nat→Bool,(∀ p∈before,sp p.block=true)→DataW.TrodVars enc P W' sp s.vars (s.fn H (ds++gs)).vars pv)
  (hps:before=pa++pv) (hk:Kept W W')
  (hok:∀ (j:Nat) (t:TypeId) (r:Value),f.resultTypes[j]?=some t→(v.resultList f.resultTypes.size)[j]?=some r→Value.okWide P W' .any 0 t r) :
  s.post enc P f apart fresh handsOn again W args v W':=by
 have hold:∀ p∈before,(fun b=>decide (b<W.heap.size)) p.block=true:=fun p hp=>by simpa using hW.lt p hp
 refine ⟨ds,gs,before,[],pa,pv,hW,hres _ _ _,hargs _ hold,hvars _ hold,World.keptBut_mono (fun p hp=>⟨hp,?_⟩) (hk.frame (· ∈ before)),fun _=>?_⟩
 ·rw [hps,List.mem_append] at hp
  exact Or.inr hp
 have hlt:=hW.lt;obtain ⟨_,_,_,_,_,hz,hn⟩:=hW;refine ⟨hok,_,_,([]++pa)++pv,⟨[]++pa,pv,trodAll_append (hargs _ (fun _ _=>rfl)) (hres _ _ _),hvars _ (fun _ _=>rfl),rfl,?_,?_⟩,?_⟩
 ·intro b off hp
  have hp':MemPlace.cell b off∈before:=by rw [hps]; simpa using hp
  rw [hk.frozen _ (hlt _ hp')];exact hz b off hp'
 ·intro ha
  have:=hn ha;rw [hps] at this
  simpa using this
 intro p hp _;rw [hps]
 simpa using hp
end
section
open Go Go.ChangeShapes Go.WideShapes Go.ChangeAt Go.RowKit
theorem qpO {p:Program} {fits:TypeId→Bool} {d:Nat} {e:TypeId} {count off n:Nat} (h:rowAt p fits d e count off n=true):off≤count*p.cellsOf e:=by
 cases d with
 | zero=>simp [rowAt] at h
 | succ d =>
  unfold rowAt at h;simp only at h;split at h
  ·cases h
  rename_i hs
  have hs':0<p.cellsOf e:=Nat.pos_of_ne_zero hs;have hd:=Nat.div_add_mod off (p.cellsOf e);rw [Nat.mul_comm] at hd;simp only [Bool.or_eq_true,Bool.and_eq_true,beq_iff_eq,decide_eq_true_eq] at h
  rcases h with ⟨⟨h0,h1⟩,_⟩ | ⟨h1,_⟩
  ·rw [← hd,h0,Nat.add_zero]
   exact Nat.mul_le_mul_right _ (by omega)
  have hm:=Nat.mod_lt off hs';have:(off / p.cellsOf e+1)*p.cellsOf e≤count*p.cellsOf e:=Nat.mul_le_mul_right _ h1;rw [Nat.add_mul] at this;omega
theorem qoQ {p:Program} {d:Nat} {e u:TypeId} {count off n:Nat} (h:liesAt p d e count off u n=true):off≤count*p.cellsOf e:=by
 induction d generalizing u n with
 | zero=>simp [liesAt] at h
 | succ d ih =>
  unfold liesAt at h;rw [Bool.or_eq_true] at h
  rcases h with h | h
  ·exact qpO h
  split at h
  ·exact ih h
  cases h
theorem qrE {P:Program} {W:World} {r:Reach} {base:Nat} {a:Addr} {e:TypeId} {cap:Nat} (h:W.has P r base a e cap) {vs:List Value} (hc:∀ i (hi:i<vs.length),W.cell? (a.add i)=some vs[i]) :
  ∃ b off,a=⟨b,off,none⟩∧Seg W b off vs:=by
 obtain ⟨_,hsp,row,cells,hsh,hl⟩:=h;obtain ⟨b,off,spot⟩:=a;dsimp only at hsp hsh hl;subst hsp;refine ⟨b,off,rfl,?_⟩;unfold World.shape? at hsh;split at hsh
 ·rename_i cur e' fr hb
  simp only [Option.some.injEq,Prod.mk.injEq] at hsh;obtain ⟨rfl,rfl⟩:=hsh;have hoff:off≤cur.size:=Nat.le_trans (qoQ hl) (Nat.div_mul_le_self _ _)
  have hget:∀ i (hi:i<vs.length),cur.toList[off+i]?=some vs[i]:=fun i hi=>by
   have:=hc i hi;rw [add_plain] at this;unfold World.cell? at this;rw [hb] at this
   simpa using this
  refine ⟨cur,e',fr,cur.toList.take off,cur.toList.drop (off+vs.length),hb,?_,by simp [hoff]⟩
  have hvs:vs=(cur.toList.drop off).take vs.length:=by
   apply List.ext_getElem?;intro i
   rcases Nat.lt_or_ge i vs.length with hi | hi
   ·rw [List.getElem?_take_of_lt hi,List.getElem?_drop,hget i hi,List.getElem?_eq_getElem hi]
   rw [List.getElem?_eq_none hi,List.getElem?_eq_none (by simp; omega)]
  have:vs++cur.toList.drop (off+vs.length)=cur.toList.drop off:=by
   conv=>lhs; arg 1; rw [hvs]
   rw [← List.drop_drop];exact List.take_append_drop _ _
  rw [List.append_assoc,this,List.take_append_drop]
 cases hsh
theorem nown (b:Nat):¬ Mu.zero.owns b:=fun h=>h.elim (fun ⟨_,_,h⟩=>by cases h) id
theorem qpX {H:Type} {enc:TypeId × Value→H} {P:Program} {W:World} {base:Nat} {t:TypeId} {k:IntKind} {v:Value} {d:DataW H} {ps:List MemPlace} (ht:P.underlying t=some (.int k))
  (hval:Value.okWide P W .any base t v) (h:DataW.Trod enc P W 0 (fun _=>true) true t v d ps):∃ n:Int,(Lit.int k n).wf=true∧Rep W Mu.zero (.int k n) v:=by
 obtain ⟨n,rfl,_,_,hw⟩:=open_int ht hval h;exact ⟨n,hw,rfl,hw⟩
theorem qma {H:Type} {enc:TypeId × Value→H} {P:Program} {W:World} {base:Nat} {t:TypeId} {v:Value} {d:DataW H} {ps:List MemPlace} (ht:P.underlying t=some (.int .u8))
  (hval:Value.okWide P W .any base t v) (h:DataW.Trod enc P W 0 (fun _=>true) true t v d ps):∃ b:UInt8,Rep W Mu.zero (.int .u8 (b.toNat:Int)) v:=by
 obtain ⟨n,hw,hr⟩:=qpX ht hval h
 have hw':(0:Int)≤n∧n≤255:=by
  simp only [Lit.wf,Bool.and_eq_true,decide_eq_true_eq] at hw;exact hw
 refine ⟨UInt8.ofNat n.toNat,?_⟩
 have:((UInt8.ofNat n.toNat).toNat:Int)=n:=by
  rw [UInt8.toNat_ofNat'];omega
 rw [this];exact hr
theorem qg9 {H:Type} {enc:TypeId × Value→H} {P:Program} (hl:laidOutB P=true) {W W':World} {sp:Nat→Bool}:∀ {ts:List TypeId} {vs:List Value} {ds:List (DataW H)} {ps:List MemPlace},
  (ts.all fun t=>P.readableRec t && decide (t<P.types.size))=true→DataW.TrodAll enc P W 0 (fun _=>true) true ts vs ds ps→(∀ p∈ps,W.sameAt W' p)→(∀ p∈ps,sp p.block=true)→DataW.TrodAll enc P W' 0 sp true ts vs ds ps
 | [],vs,ds,ps,_,h,_,_=>by
  obtain ⟨rfl,rfl,rfl⟩:=trodAll_nil h;exact trodAll_mk0
 | t::ts,vs,ds,ps,ht,h,h1,h2=>by
  obtain ⟨v,vs',d,ds',p,q,rfl,rfl,rfl,h3,h4⟩:=trodAll_cons h;simp only [List.all_cons,Bool.and_eq_true,decide_eq_true_eq] at ht
  exact trodAll_cons_mk (WideElems.Trod_stays hl ht.1.1 ht.1.2 h3 (fun x hx=>h1 x (List.mem_append_left _ hx)) (fun x hx=>h2 x (List.mem_append_left _ hx)))
   (qg9 hl ht.2 h4 (fun x hx=>h1 x (List.mem_append_right _ hx)) (fun x hx=>h2 x (List.mem_append_right _ hx)))
theorem Kept.same {W W':World} (h:Kept W W') (p:MemPlace) (hp:p.block<W.heap.size):W.sameAt W' p:=by
 cases p with
 | cell b off =>
  show W'.cell? ⟨b,off,none⟩=W.cell? ⟨b,off,none⟩;unfold World.cell?;rw [h.2.2.2 b hp]
 | map b=>exact h.2.2.2 b hp
theorem qlc {H:Type} {enc:TypeId × Value→H} {P:Program} {f:Func} {s:ChangeSpec} {apart fresh handsOn again:Bool} {W W':World} {args:Array Value} {ds gs:List (DataW H)} {before:List MemPlace} {t:TypeId}
  (hl:laidOutB P=true) (hps:(f.params.toList.all fun t=>P.readableRec t && decide (t<P.types.size))=true) (hres:f.resultTypes = #[t]) (ht:P.underlying t=some .bool) (hv:s.vars=[])
  (hW:DataW.Whole enc P f.params.toList s.vars apart W args.toList ds gs before) (hk:Kept W W')
  (h1:(s.fn H (ds++gs)).results=[.lit (.bool true)]) (h2:(s.fn H (ds++gs)).args=ds) (h3:(s.fn H (ds++gs)).vars=[]) :
  s.post enc P f apart fresh handsOn again W args (.bool true) W':=by
 have hlt:=hW.lt;have hW':=hW;obtain ⟨p,q,hA,hV,rfl,_,_⟩:=hW;rw [hv] at hV;obtain ⟨rfl,rfl⟩:=trodVars_none hV;refine qld (pa:=p) (pv:=[]) hW' (fun _ _ _=>?_) (fun sp hsp=>?_) (fun _ _=>?_) (by simp) hk (ok_one hres rfl (okWide_bool_mk ht _))
 ·rw [hres,h1]
  exact trodAll_cons_mk (shut_bool ht _) trodAll_mk0
 ·rw [h2]
  exact qg9 hl hps hA (fun x hx=>hk.same x (hlt x (by simpa using hx))) (fun x hx=>hsp x (by simpa using hx))
 rw [h3,hv];rfl
end
section
open Go Go.ChangeShapes Go.WideShapes Go.ChangeAt Go.RowKit
section
variable {H:Type} {enc:TypeId × Value→H} {P:Program} {W:World} {base:Nat}
theorem qmP {μ:Mu}:∀ {hs ks:List HV} {vs us:List Value},RepL W μ hs vs→RepL W μ ks us→RepL W μ (hs++ks) (vs++us)
 | [],_,_,_,h,h'=>by cases h; exact h'
 | _::_,_,_,_,⟨x,xs,rfl,h1,h2⟩,h'=>⟨x,_,rfl,h1,qmP h2 h'⟩
theorem qqF (a:Addr) (i j:Nat):(a.add i).add j=a.add (i+j):=by
 unfold Addr.add
 repeat' split
 all_goals simp_all [Nat.add_assoc]
theorem qlf {α:Type} (c:EncL α) {fuel:Nat} {t e:TypeId} {cs:List Value} {x:DataW H × List MemPlace} (ht:P.underlying t=some (.slice e)) (hk:P.cellsOf e=c.k) (hone:∀ x,ones (c.C x))
  (hel:∀ n cs y,DataW.trod enc P W 0 (fun _=>true) true n e cs=some y→∃ x:α,RepL W Mu.zero (c.C x) cs)
  (hhas:∀ a len cap,cs=[.slice (some a) len cap]→W.has P .any base a e cap) (h:DataW.trod enc P W 0 (fun _=>true) true fuel t cs=some x):∃ l:List α,RepL W Mu.zero [slE c l] cs:=by
 rcases DataW.trod_slice ht h with ⟨rfl,_⟩ | ⟨a,len,cap,elems,rest,n,_,rfl,_,_,hl,hm,hlen,hel',_,_⟩
 ·refine ⟨[],_,_,rfl,?_,rfl⟩
  show _∧_;exact ⟨(by rw [c.nil]; exact fun _ h=>nomatch h),(by rw [c.nil]; simp),Nat.zero_le _,.inl ⟨rfl,none,rfl⟩⟩
 have each:∀ i,i<len→∃ cs' x,W.cells? 0 (a.add (i*c.k)) c.k=some cs'∧RepL W Mu.zero (c.C x) cs':=fun i hi=>by
  have h1:=hel' i hi;rw [List.getElem?_eq_getElem (by omega),Option.bind_eq_some_iff,hk] at h1;obtain ⟨cs',h2,h3⟩:=h1;obtain ⟨x,hx⟩:=hel _ _ _ h3;exact ⟨cs',x,h2,hx⟩
 have build:∀ m,m≤len→∃ (l:List α) (vs:List Value),l.length=m∧vs.length=m*c.k∧RepL W Mu.zero (c.E l) vs∧∀ i (hi:i<vs.length),W.cell? (a.add i)=some vs[i]:=by
  intro m
  induction m with
  | zero=>exact fun _=>⟨[],[],rfl,by simp,by rw [c.nil]; rfl,fun i hi=>by simp at hi⟩
  | succ m ih =>
   intro hm;obtain ⟨l,vs,h1,h2,h3,h4⟩:=ih (by omega);obtain ⟨cs',x,h5,h6⟩:=each m (by omega);obtain ⟨_,h7,h8⟩:=World.cells?_some h5;refine ⟨l++[x],vs++cs',by simp [h1],by rw [List.length_append,h2,h7,Nat.succ_mul],by rw [c.append,c.one]; exact qmP h3 h6,fun i hi=>?_⟩
   rcases Nat.lt_or_ge i vs.length with hi' | hi'
   ·rw [List.getElem_append_left hi']; exact h4 i hi'
   rw [List.getElem_append_right hi'];rw [List.length_append] at hi;have:=h8 (i - vs.length) (by omega);rw [qqF,h2,show m*c.k+(i - m*c.k)=i by omega] at this;rw [this,List.getElem?_eq_getElem (by omega)];simp only [h2]
 obtain ⟨l,vs,h1,h2,h3,h4⟩:=build len (Nat.le_refl _);obtain ⟨b,off,rfl,hseg⟩:=qrE (hhas _ _ _ rfl) h4;refine ⟨l,_,_,rfl,?_,rfl⟩;show _∧_;refine ⟨fun d hd=>?_,c.len l,by omega,.inr ⟨b,off,cap,vs,by rw [h1],by omega,nown b,hseg,h3⟩⟩;rw [c.hE] at hd;obtain ⟨x,_,hdx⟩:=List.mem_flatMap.1 hd;exact hone x d hdx
theorem qr8 {t:TypeId} {f0 f1 f2:Field} {fuel:Nat} {cs:List Value} {x:DataW H × List MemPlace} (ht:P.underlying t=some (.struct #[f0,f1,f2])) (o0:f0.offset=0) (o1:f1.offset=1) (o2:f2.offset=2) (c:P.cellsOf t=3)
  (c0:P.cellsOf f0.type=1) (c1:P.cellsOf f1.type=1) (c2:P.cellsOf f2.type=1) (h:DataW.trod enc P W 0 (fun _=>true) true fuel t cs=some x) :
  ∃ v0 v1 v2 y0 y1 y2 n,cs=[v0,v1,v2]∧DataW.trod enc P W 0 (fun _=>true) true n f0.type [v0]=some y0∧DataW.trod enc P W 0 (fun _=>true) true n f1.type [v1]=some y1∧DataW.trod enc P W 0 (fun _=>true) true n f2.type [v2]=some y2:=by
 obtain ⟨xs,n,_,rfl,hl,hlen,hf⟩:=DataW.trod_struct ht h;rw [c] at hl
 match cs,hl with
 | [v0,v1,v2],_ =>
  match xs,hlen with
  | [y0,y1,y2],_ =>
   refine ⟨v0,v1,v2,y0,y1,y2,n,rfl,?_,?_,?_⟩
   ·have:=hf 0 f0 rfl; rw [o0,c0] at this; exact this
   ·have:=hf 1 f1 rfl; rw [o1,c1] at this; exact this
   have:=hf 2 f2 rfl; rw [o2,c2] at this; exact this
theorem qja {n:Int} {ti:TypeId} {m:Nat} {v:Value} {y:DataW H × List MemPlace} (hti:P.underlying ti=some (.int .i64)) (h:DataW.trod enc P W 0 (fun _=>true) true m ti [v]=some y):∃ n:Int,Rep W Mu.zero (.int .i64 n) v:=by
 obtain ⟨n,hv,_,hw⟩:=DataW.trod_int hti h;cases hv;exact ⟨n,rfl,hw⟩
theorem qnO {t ti ts te:TypeId} {f0 f1 f2 e0 e1 e2:Field} {v:Value} {d:DataW H} {ps:List MemPlace} (ht:P.underlying t=some (.struct #[f0,f1,f2])) (o:f0.offset=0∧f1.offset=1∧f2.offset=2) (y:f0.type=ti∧f1.type=ti∧f2.type=ts)
  (c:P.cellsOf t=3) (ci:P.cellsOf ti=1) (cs:P.cellsOf ts=1) (ct:P.cellTypes P.depth t=some [ti,ti,ts]) (hti:P.underlying ti=some (.int .i64)) (hts:P.underlying ts=some (.slice te))
  (hte:P.underlying te=some (.struct #[e0,e1,e2])) (oe:e0.offset=0∧e1.offset=1∧e2.offset=2) (ye:e0.type=ti∧e1.type=ti∧e2.type=ti) (ce:P.cellsOf te=3)
  (hval:Value.okWide P W .any base t v) (h:DataW.Trod enc P W 0 (fun _=>true) true t v d ps):∃ g:qaa,Rep W Mu.zero (.agg [.int .i64 g.1,.int .i64 g.2.1,slE eFromLabelTo g.2.2]) v:=by
 obtain ⟨y0,y1,y2⟩:=y;obtain ⟨z0,z1,z2⟩:=ye;simp only [Value.okWide,ht] at hval;obtain ⟨arr,rfl,_,hrow⟩:=hval;obtain ⟨fuel,hf⟩:=h;obtain ⟨v0,v1,v2,a0,a1,a2,n,hcs,h0,h1,h2⟩:=qr8 ht o.1 o.2.1 o.2.2 c (by rw [y0]; exact ci) (by rw [y1]; exact ci) (by rw [y2]; exact cs) hf
 have harr:arr = #[v0,v1,v2]:=by
  have:arr.toList=[v0,v1,v2]:=hcs;cases arr
  simp_all
 subst harr;rw [y0] at h0;rw [y1] at h1;rw [y2] at h2;obtain ⟨l,r0⟩:=qja (n:=0) hti h0;obtain ⟨s,r1⟩:=qja (n:=0) hti h1
 obtain ⟨es,_,_,r2,r2',r2''⟩:=qlf (base:=base) eFromLabelTo hts ce (fun x d hd=>by
   have hd:d∈[HV.int .i64 x.1,HV.int .i64 x.2.1,HV.int .i64 x.2.2]:=hd;simp only [List.mem_cons,List.not_mem_nil,or_false] at hd
   rcases hd with rfl | rfl | rfl <;> rfl) (fun m cs' y hy=>by
   obtain ⟨w0,w1,w2,b0,b1,b2,n',rfl,k0,k1,k2⟩:=qr8 hte oe.1 oe.2.1 oe.2.2 ce (by rw [z0]; exact ci) (by rw [z1]; exact ci) (by rw [z2]; exact ci) hy;rw [z0] at k0;rw [z1] at k1;rw [z2] at k2;obtain ⟨p0,q0⟩:=qja (n:=0) hti k0;obtain ⟨p1,q1⟩:=qja (n:=0) hti k1;obtain ⟨p2,q2⟩:=qja (n:=0) hti k2
   exact ⟨(p0,p1,p2),_,_,rfl,q0,_,_,rfl,q1,_,_,rfl,q2,rfl⟩) (fun a len cap e=>by
   cases e;obtain ⟨tys,ht1,_,hcell⟩:=hrow;rw [ct] at ht1;cases ht1;obtain ⟨u,hu,hok⟩:=hcell 2 (.slice (some a) len cap) rfl;cases hu;simp only [Cell.okWide,hts,Cell.ok] at hok
   exact hok.2.2) h2
 cases r2;refine ⟨(l,s,es),?_⟩;show _∧_;refine ⟨fun d hd=>?_,_,rfl,_,_,rfl,r0,_,_,rfl,r1,_,_,rfl,r2',rfl⟩;simp only [List.mem_cons,List.not_mem_nil,or_false] at hd
 rcases hd with rfl | rfl | rfl <;> rfl
end
end
section
open Go Go.ChangeShapes Go.WideShapes Go.ChangeAt Go.RowKit
section
variable {H:Type} {enc:TypeId × Value→H} {P:Program} {W:World} {base:Nat}
theorem qlg {k:IntKind} {t e:TypeId} {v:Value} {d:DataW H} {ps:List MemPlace} (ht:P.underlying t=some (.slice e)) (he:P.underlying e=some (.int k)) (hc:P.cellsOf e=1)
  (hval:Value.okWide P W .any base t v) (h:DataW.Trod enc P W 0 (fun _=>true) true t v d ps):∃ l:List Int,Rep W Mu.zero (slE (encM (HV.int k)) l) v:=by
 obtain ⟨a,len,cap,rfl⟩:=okWide_slice ht hval;obtain ⟨fuel,hf⟩:=h
 obtain ⟨l,x,xs,e1,h1,h2⟩:=qlf (encM (HV.int k)) ht hc (fun x=>ones.single rfl) (fun n cs y hy=>by
  obtain ⟨m,hv,_,hw⟩:=DataW.trod_int he hy
  exact ⟨m,_,_,hv,⟨rfl,hw⟩,rfl⟩) (fun a' len' cap' e=>by
   simp [Value.cells] at e;obtain ⟨rfl,rfl,rfl⟩:=e;simp only [Value.okWide,ht,Cell.okWide,Cell.ok] at hval
   exact hval.2.2) hf
 simp [Value.cells] at e1;obtain ⟨rfl,_⟩:=e1;exact ⟨l,h1⟩
end
end
section
open Go Go.ChangeShapes Go.WideShapes Go.ChangeAt Go.RowKit
theorem qqn {l:List Int} (h:fact (slE eU8 l)):∀ x∈l,0≤x∧x<256:=fun x hx=>by
 have hE:eU8.E l=l.map (HV.int .u8):=by simp [EncL.E,encM]
 have h2:qjs (eU8.E l):=h.2.2;rw [hE] at h2;have h3:=qlC.1 h2 (.int .u8 x) (List.mem_map.2 ⟨x,hx,rfl⟩)
 have h4:0≤x∧x≤255:=by simpa [fact,Lit.wf,IntKind.min,IntKind.max,IntKind.signed,IntKind.bits] using h3
 omega
section
variable {H:Type} {enc:TypeId × Value→H} {P:Program} {W:World} {base:Nat}
theorem qpW {t e:TypeId} {v:Value} {d:DataW H} {ps:List MemPlace} (ht:P.underlying t=some (.slice e)) (he:P.underlying e=some (.int .u8)) (hc:P.cellsOf e=1)
  (hval:Value.okWide P W .any base t v) (h:DataW.Trod enc P W 0 (fun _=>true) true t v d ps):∃ l:List Int,Rep W Mu.zero (slE eU8 l) v:=qlg ht he hc hval h
end
end
section
open Go Go.ChangeShapes Go.WideShapes Go.ChangeAt Go.RowKit
section
variable {H:Type} {enc:TypeId × Value→H} {P:Program} {W:World} {base:Nat}
end
end
end Go.AW
namespace Go.Proofs.YtdghoeofijghfaaGreat
open Go Go.AW Go.ChangeShapes Go.WideShapes Go.ChangeAt Go.RowKit Go.ChangeMaps
theorem ownM:ownKnob Tryz.prog.godebug=none:=by kernel_rfl
theorem qtb:laidOutB Tryz.prog=true:=by kernel_rfl
theorem wLaw (a0:qaa) (a1:UInt8) (a2:UInt8) (a3:UInt8) (a4:List Int):Pure Tryz.prog 4 [HV.agg [HV.int .i64 a0.1,HV.int .i64 a0.2.1,slE eFromLabelTo a0.2.2],.int .u8 a1.toNat,.int .u8 a2.toNat,.int .u8 a3.toNat,slE eU8 a4] (· = .bool true):=zat (qde Tryz.func4 rfl rfl) fun hf=>qim (qmk _ _ _ _ _ (fun x hx=>(by have:=qqn hf.2.2.2.2.1 x hx; omega)) (by have h9:_≤maxLen:=hf.2.2.2.2.1.1; simp only [maxLen] at h9; omega))
set_option maxRecDepth 100000 in
theorem qrz (os:Os) (started:os.Started) (H:Type) (enc:TypeId × Value→H) :
  ReturnsInHanded {} Tryz.checked os 4 .any (Rows.topMergingSpec.pre6 enc Tryz.prog Tryz.f4 Rows.topMergingRow.domain false) (Rows.topMergingSpec.post enc Tryz.prog Tryz.f4 false true false false):=by
 refine returnsInHanded_of_change (C:=Tryz.checked) ownM started (by kernel_rfl) Tryz.func4
  (ChangeSpec.witness6 (enc:=enc) (C:=Tryz.checked) false ⟨#[],#[.agg #[.int .i64 0,.int .i64 0,.slice none 0 0],.int .u8 0,.int .u8 0,.int .u8 0,.slice none 0 0],[]⟩ 8 (by kernel_rfl) (by kernel_rfl) (by kernel_rfl) (by kernel_rfl)) ?_
 intro W base args ds gs before hval0 hW hcnd _;have hval:∀ (j:Nat) t v,Tryz.f4.params[j]?=some t→args[j]?=some v→Value.okWide Tryz.prog W .any base t v:=hval0;have hW':=hW;obtain ⟨p,q,hA0,hV,rfl,hfz,hnd⟩:=hW;have hA:DataW.TrodAll enc Tryz.prog W 0 (fun _=>true) true Tryz.f4.params.toList args.toList ds p:=hA0;rw [Tryz.params4] at hA hval;obtain ⟨v0,vs0,d0,ds0,p0,q0,hargs,rfl,rfl,h0,r0⟩:=trodAll_cons hA;obtain ⟨v1,vs1,d1,ds1,p1,q1,rfl,rfl,rfl,h1,r1⟩:=trodAll_cons r0;obtain ⟨v2,vs2,d2,ds2,p2,q2,rfl,rfl,rfl,h2,r2⟩:=trodAll_cons r1;obtain ⟨v3,vs3,d3,ds3,p3,q3,rfl,rfl,rfl,h3,r3⟩:=trodAll_cons r2;obtain ⟨v4,vs4,d4,ds4,p4,q4,rfl,rfl,rfl,h4,r4⟩:=trodAll_cons r3;obtain ⟨rfl,rfl,rfl⟩:=trodAll_nil r4
 obtain rfl:args = #[v0,v1,v2,v3,v4]:=by cases args; simp_all
 obtain ⟨rfl,rfl⟩:=trodVars_none hV;obtain ⟨a0,hr0⟩:=qnO Tryz.underlying27 ⟨rfl,rfl,rfl⟩ ⟨rfl,rfl,rfl⟩ (by kernel_rfl) (by kernel_rfl) (by kernel_rfl) (by kernel_rfl) Tryz.underlying3 Tryz.underlying25 Tryz.underlying35 ⟨rfl,rfl,rfl⟩ ⟨rfl,rfl,rfl⟩ (by kernel_rfl) (hval 0 27 v0 rfl rfl) h0;obtain ⟨a1,hr1⟩:=qma Tryz.underlying5 (hval 1 5 v1 rfl rfl) h1;obtain ⟨a2,hr2⟩:=qma Tryz.underlying5 (hval 2 5 v2 rfl rfl) h2;obtain ⟨a3,hr3⟩:=qma Tryz.underlying5 (hval 3 5 v3 rfl rfl) h3;obtain ⟨a4,hr4⟩:=qpW Tryz.underlying28 Tryz.underlying5 (by kernel_rfl) (hval 4 28 v4 rfl rfl) h4;refine (qkT (vs:=[v0,v1,v2,v3,v4]) (wLaw a0 a1 a2 a3 a4) ⟨_,_,rfl,hr0,_,_,rfl,hr1,_,_,rfl,hr2,_,_,rfl,hr3,_,_,rfl,hr4,rfl⟩).mono fun e W' ⟨he,hk⟩=>?_;subst he;exact ⟨_,rfl,qlc qtb (by kernel_rfl) rfl Tryz.underlying4 rfl hW' hk rfl rfl rfl⟩
theorem topMergingProved:Rows.TopMergingSaid :=
 OpenClaim.holds_of_wide 4 Tryz.f4 rfl rfl rfl rfl rfl rfl rfl ⟨rfl,rfl,rfl,rfl,rfl⟩ rfl rfl rfl rfl rfl (by kernel_rfl) Tryz.func4 (by kernel_rfl)
  (of_decide_eq_true (by kernel_rfl)) (by unfold Func.isWrapper; first | (rw [if_pos (by decide +kernel)]; kernel_rfl) | (rw [if_neg (by decide +kernel)]; exact ⟨rfl,rfl⟩))
  (fun os started H enc _=>qrz os started H enc)
#print axioms topMergingProved
end Go.Proofs.YtdghoeofijghfaaGreat
end
