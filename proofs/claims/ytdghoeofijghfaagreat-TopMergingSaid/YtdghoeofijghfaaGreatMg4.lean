import Derived.Test.YtdghoeofijghfaaGreatMg3
import Derived.DeepKeys3
import Derived.Lib.Bytealg
import Derived.Maps.Keyed
import Derived.WideKeyEntry
import Derived.WideKeyMaps
set_option linter.unusedSimpArgs false
set_option linter.unusedVariables false
namespace Go.AW
open Go Go.Proofs
set_option maxRecDepth 100000 in
theorem qew {H:Heap} {K:HV→Heap→Prop} {id ver aid aver:Nat} {u:Bool} {l m:List UInt8} (hid:aid≠id) (hg:hget H id=some (ver,bldO id ver aid aver u l)) (ha:hget H aid=some (aver,bytO l)) (hfit:fits 1 (l.length+m.length))
    (hK:∀ av,K (.tup [.int .i64 (m.length:Int),.v .nilIface]) ((id,ver,bldO id ver aid av true (l++m))::(aid,av,bytO (l++m))::H)):ACall Tryz.prog 27 [.ptr id ver 0,.str m] H K:=by
  refine ACall.of_body Tryz.func27 rfl rfl (lb rfl) ?_;unfold Tryz.f27;dsimp only [qaL,Nat.reduceAdd];refine zaa rfl fun K1 hK1=>?_;refine mv rfl rfl (mv rfl rfl ?_);refine qab (hK1 _ (AW.to (qaZ (s':=⟨[(0,.ptr id ver 0),(1,.str m)],H⟩) (qcY ⟨rfl,rfl,trivial⟩) ?_)));clear hK1 K1;refine zaa rfl fun K1 hK1=>?_;refine mv rfl rfl ?_;refine b_op rfl (qdd rfl rfl rfl rfl (qmt hg ?_));refine qab (hK1 _ (AW.to (qaZ (s':=⟨[(0,.ptr id ver 0),(1,.str m)],(id,ver,.arr 2 69 [.ptr id ver 0,.ar aid aver 1 0 l.length])::H⟩) (qcY ⟨rfl,rfl,trivial⟩) ?_)));clear hK1 K1;have ha1:hget ((id,ver,AObj.arr 2 69 [.ptr id ver 0,.ar aid aver 1 0 l.length])::H) aid=some (aver,.arr eByte.k 5 (eByte.E l)):=qm3 hid ha;refine zaa rfl fun K1 hK1=>?_;refine mv rfl rfl (mv rfl rfl (bv rfl (qqP rfl qda) (bv rfl (qal qqY rfl qda) (bv rfl (qaf ty28 rfl qda (qaj rfl rfl)) (mv rfl rfl ?_)))));refine b_op rfl (qsf (l:=l) (m:=m) rfl rfl ty28 ty9 ty5 rfl ha1 rfl rfl rfl hfit (fun av=>?_));refine bv rfl (qqP rfl (qm3 (fun e=>hid e.symm) qda)) (bv rfl (qal qqY rfl (qm3 (fun e=>hid e.symm) qda)) ?_);refine b_op rfl (qax (cs:=[.ar aid av 1 0 (l++m).length]) (zs:=[.ptr id ver 0,.ar aid av 1 0 (l++m).length]) rfl rfl rfl ty28 rfl (qm3 (fun e=>hid e.symm) qda) rfl rfl rfl ?_);refine qab (hK1 _ (AW.to (qaZ (s':=⟨[(1,.str m)],(id,ver,.arr 2 69 [.ptr id ver 0,.ar aid av 1 0 (l++m).length])::(aid,av,.arr 1 5 (eByte.E (l++m)))::H⟩) ⟨qaP ⟨rfl,trivial⟩,fun j x hx=>?_⟩ ?_)))
  · simp only [hget] at hx ⊢
    by_cases h1:j=id
    · subst h1; simpa using hx
    rw [if_neg h1] at hx ⊢;by_cases h2:j=aid
    · rw [if_pos h2] at hx ⊢; exact hx
    rw [if_neg h2] at hx;rw [if_neg h2,if_neg h1];exact hx
  clear hK1 K1;refine zaa rfl fun K1 hK1=>?_;refine mv rfl rfl (bv rfl (qcb rfl rfl ty9 rfl) (mv rfl rfl (mv rfl rfl ?_)));refine qab (hK1 _ (AW.to (qaZ (s':=⟨[(4,.int .i64 (m.length:Int)),(5,.v .nilIface)],(id,ver,.arr 2 69 [.ptr id ver 0,.ar aid av 1 0 (l++m).length])::(aid,av,.arr 1 5 (eByte.E (l++m)))::H⟩) (qcY ⟨rfl,rfl,trivial⟩) ?_)));clear hK1 K1;refine AW.ret ⟨.inr rfl,?_⟩;simp only [go_sem];exact ⟨_,_,Conv.refl _ _,hK av⟩
set_option maxHeartbeats 1600000
set_option maxRecDepth 100000
theorem qdV {p0:List UInt8} {p1:List UInt8} {r:Bool} (h:qbu p0 p1=some r):Pure Tryz.prog 109 [.str p0,.str p1] (· = HV.bool r):=by
 unfold qbu at h;refine zaj Tryz.func109 rfl rfl (lb rfl) fun hf=>?_;unfold Tryz.f109;dsimp only [qaL,Nat.reduceAdd];refine zaa rfl fun K hK=>mv rfl rfl ?_;refine bf hK ⟨[(0,.str p0),(1,.str p1)],[]⟩ ?_;refine zag h (S:=Bool) (V:=Unit) (fun a v=>⟨[(4,.bool a)],[]⟩) (fun a1 w2 h=>?_) (fun k3 h=>?_)
 ·obtain rfl:=oi h
  exact AW.ret (qae (.inr rfl) (resT rfl rfl) rfl trivial)
 refine zab rfl fun K hK=>mv rfl rfl (bv rfl (qcb rfl rfl ty9 rfl) (mv rfl rfl (bv rfl (qcb rfl rfl ty9 rfl) (bv rfl (qag rfl rfl qgL) (mv rfl rfl ?_)))));by_cases hg5:((p1).length:Int)≤((p0).length:Int)
 ·have h:=ifT hg5 h
  refine b_T rfl rfl rfl rfl (decide_eq_true hg5) (qai rfl (qaE rfl rfl).2 ?_);refine b_T rfl rfl rfl rfl rfl (qai rfl (qaE rfl rfl).2 ?_);refine b_T rfl rfl rfl rfl rfl (qai rfl (qcb rfl rfl ty9 rfl) ?_);obtain ⟨h4,h⟩:=ifN h;refine b_T rfl rfl rfl rfl rfl (qai rfl (qc2 ty9 rfl rfl rfl h4) ?_);refine b_T rfl rfl rfl rfl rfl (qai rfl (qaE rfl rfl).2 ?_);refine b_T rfl rfl rfl rfl rfl (qai rfl (qag rfl rfl qlP) ?_);refine bv rfl (qan rfl rfl rfl) (mv rfl rfl ?_);refine qab (hK _ ?_);exact to_L ⟨decide (((p0.take (((p1).length:Int)).toNat).drop (0:Int).toNat)=p1),(),h,rfl⟩
 have h:=ifF hg5 h;refine b_F rfl rfl rfl rfl rfl (decide_eq_false hg5) ?_
 iterate 5 refine b_F rfl rfl rfl rfl rfl rfl ?_
 refine bv rfl (qau rfl rfl rfl) (mv rfl rfl ?_);refine qab (hK _ ?_);exact to_L ⟨false,(),h,rfl⟩
theorem qcz {p0:List UInt8} {p1:List UInt8} {r:Bool} (h:qeG p0 p1=some r):Pure Tryz.prog 89 [.str p0,.str p1] (· = HV.bool r):=by
 unfold qeG at h;refine zaj Tryz.func89 rfl rfl (lb rfl) fun hf=>?_;unfold Tryz.f89;dsimp only [qaL,Nat.reduceAdd];refine zaa rfl fun K hK=>mv rfl rfl ?_;refine bf hK ⟨[(0,.str p0),(1,.str p1)],[]⟩ ?_;refine zaa rfl fun K hK=>mv rfl rfl (mv rfl rfl ?_);obtain ⟨x1,h2,h⟩:=bS h;refine b_op rfl (qat rfl rfl rfl rfl (zai (qdV h2)) ?_);refine mv rfl rfl ?_;refine bf hK ⟨[(4,.bool x1)],[]⟩ ?_;obtain rfl:=oi h;exact AW.ret (qae (.inr rfl) (resT rfl rfl) rfl trivial)
theorem qeC {p0:List (Int)} {p1:Int→Option (Bool)} {g1:FuncId} {z1:List HV} {r:Int} (h:qa9 p0 p1=some r) (hf1:∀ a0 b,p1 a0=some b→Pure Tryz.prog g1 ([hI a0]++z1) (· = HV.bool b)):Pure Tryz.prog 85 [slE eInt p0,.fn (.func g1) [] z1] (· = hI r):=by
 unfold qa9 at h;refine zaj Tryz.func85 rfl rfl (lb rfl) fun hf=>?_;unfold Tryz.f85;dsimp only [qaL,Nat.reduceAdd];refine zaa rfl fun K hK=>mv rfl rfl ?_;let E1:Nat × HV:=(1,.fn (.func g1) [] z1);let P1:ASf:=fun t H=>⟨(0,slE eInt p0)::E1::t,H⟩;refine bf hK (P1 [] []) ?_;refine zad ?_;refine zaa rfl fun K hK=>mv rfl rfl (bv rfl (qav rfl rfl ty36 rfl) (mv rfl rfl ?_));let E2:Nat × HV:=(7,hI ((p0).length:Int));refine bf hK (P1 [E2,(8,hI 0)] []) ?_;refine AW.lpR h (by first | exact qa8 | exact qc3) (S:=Int) (V:=Unit) (fun a v=>(P1 [E2,(8,hI a)] [])) ?_ (X:=Unit) (W:=Unit) (fun a v=>⟨[],[]⟩) (fun a9 w10 h=>?_) (fun a1 w2 st3 h hr4=> ?_)
 ·exact to_L ⟨(),rfl⟩
 ·refine zaa rfl fun K hK=>mv rfl rfl ?_
  refine bf hK ⟨[(4,hI (-1))],[]⟩ ?_;obtain rfl:=oi h;exact AW.ret (qae (.inr rfl) (resT rfl rfl) rfl trivial)
 refine zaa rfl fun K hK=>bv rfl (qag rfl rfl qaF) ?_;refine bf hK (P1 [E2,(8,hI a1),(9,.bool (decide (a1<((p0).length:Int))))] []) ?_;refine zak rfl (fun hc=>?_) (fun hc=>?_)
 ·obtain ⟨hc,h⟩:=cT hc h
  refine zac ?_;refine zad (zaf ?_);refine zaa rfl fun K hK=>mv rfl rfl (mv rfl rfl ?_);refine bf hK (P1 [(5,hI a1),E2,(8,hI a1)] []) ?_;refine zaa rfl fun K hK=>mv rfl rfl (mv rfl rfl (mv rfl rfl ?_));obtain ⟨x5,h6,h⟩:=bS h;refine bv rfl (qaI ty36 es36 rfl rfl (qay h6)) (bv rfl (qad ty3 rfl (qaW eInt h6 (o:=0) rfl rfl)) ?_);obtain ⟨x7,h8,h⟩:=bS h;refine b_op rfl (qat rfl rfl rfl rfl (zai (hf1 _ _ h8)) ?_);refine bf hK (P1 [(5,hI a1),E2,(8,hI a1),(16,.bool x7)] []) ?_;refine zae rfl (fun hc=>?_) (fun hc=>?_)
  ·have h:=ifT hc h
   refine zaa rfl fun K hK=>mv rfl rfl (mv rfl rfl ?_);refine bf hK ⟨[(4,hI a1)],[]⟩ ?_;have h:=hr4 _ h;obtain rfl:=oi h;exact AW.ret (qae (.inr rfl) (resT rfl rfl) rfl trivial)
  have h:=ifF (bF' hc) h;refine zac ?_;refine zab rfl fun K hK=>bv rfl (qag rfl rfl qaX) (mv rfl rfl ?_);refine qab (hK _ ?_);exact to_L ⟨IntKind.wrap .i64 (a1+1),(),h,rfl⟩
 obtain ⟨hc,h⟩:=cF hc h;refine AW.exit ?_;exact to_L ⟨(),(),h,rfl⟩
theorem qcx {p0:List (Int)} {p1:Int→Option (Bool)} {g1:FuncId} {z1:List HV} {r:Bool} (h:qaQ p0 p1=some r) (hf1:∀ a0 b,p1 a0=some b→Pure Tryz.prog g1 ([hI a0]++z1) (· = HV.bool b)):Pure Tryz.prog 54 [slE eInt p0,.fn (.func g1) [] z1] (· = HV.bool r):=by
 unfold qaQ at h;refine zaj Tryz.func54 rfl rfl (lb rfl) fun hf=>?_;unfold Tryz.f54;dsimp only [qaL,Nat.reduceAdd];refine zaa rfl fun K hK=>mv rfl rfl ?_;refine bf hK ⟨[(0,slE eInt p0),(1,.fn (.func g1) [] z1)],[]⟩ ?_;refine zaa rfl fun K hK=>mv rfl rfl (mv rfl rfl ?_);obtain ⟨x1,h2,h⟩:=bS h;refine b_op rfl (qat rfl rfl rfl rfl (zai (qeC h2 hf1)) ?_);refine bv rfl (qag rfl rfl qgL) (mv rfl rfl ?_);refine bf hK ⟨[(4,.bool (decide (0≤x1)))],[]⟩ ?_;obtain rfl:=oi h;exact AW.ret (qae (.inr rfl) (resT rfl rfl) rfl trivial)
theorem qia {p0:List (Int)} {r:Int} (h:qdF p0=some r):Pure Tryz.prog 107 [slE eInt p0] (· = hI r):=by
 unfold qdF at h;refine zaj Tryz.func107 rfl rfl (lb rfl) fun hf=>?_;unfold Tryz.f107;dsimp only [qaL,Nat.reduceAdd];refine zaa rfl fun K hK=>mv rfl rfl ?_;refine bf hK ⟨[(0,slE eInt p0)],[]⟩ ?_;refine zaa rfl fun K hK=>mv rfl rfl ?_;refine bf hK ⟨[(0,slE eInt p0),(3,hI 0)],[]⟩ ?_;refine zad ?_;refine zaa rfl fun K hK=>mv rfl rfl (bv rfl (qav rfl rfl ty36 rfl) (mv rfl rfl ?_));let E3:Nat × HV:=(7,hI ((p0).length:Int));let P2:ASf:=fun t H=>⟨(3,hI 0)::(6,slE eInt p0)::E3::t,H⟩;refine bf hK (P2 [(8,hI 0)] []) ?_;refine AW.lpR h (by first | exact qa8 | exact qc3) (S:=Int) (V:=Unit) (fun a v=>(P2 [(8,hI a)] [])) ?_ (X:=Unit) (W:=Unit) (fun a v=>⟨[(3,hI 0)],[]⟩) (fun a7 w8 h=>?_) (fun a1 w2 st3 h hr4=> ?_)
 ·exact to_L ⟨(),rfl⟩
 ·refine zaa rfl fun K hK=>mv rfl rfl (mv rfl rfl ?_)
  refine bf hK ⟨[(2,hI 0)],[]⟩ ?_;obtain rfl:=oi h;exact AW.ret (qae (.inr rfl) (resT rfl rfl) rfl trivial)
 refine zaa rfl fun K hK=>bv rfl (qag rfl rfl qaF) ?_;refine bf hK (P2 [(8,hI a1),(9,.bool (decide (a1<((p0).length:Int))))] []) ?_;refine zak rfl (fun hc=>?_) (fun hc=>?_)
 ·obtain ⟨hc,h⟩:=cT hc h
  refine zac ?_;refine zad (zaf ?_);refine zaa rfl fun K hK=>?_;obtain ⟨x5,h6,h⟩:=bS h;refine bv rfl (qaI ty36 es36 rfl rfl (qay h6)) (bv rfl (qad ty3 rfl (qaW eInt h6 (o:=0) rfl rfl)) (mv rfl rfl ?_));refine bf hK ⟨[(3,hI 0),(5,hI x5),(6,slE eInt p0),E3,(8,hI a1)],[]⟩ ?_;refine zaa rfl fun K hK=>mv rfl rfl (mv rfl rfl (bv rfl (qag rfl rfl qcv) ?_));refine bf hK ⟨[(3,hI 0),(5,hI x5),(6,slE eInt p0),E3,(8,hI a1),(14,.bool (decide (x5≠0)))],[]⟩ ?_;refine zae rfl (fun hc=>?_) (fun hc=>?_)
  ·obtain ⟨hc,h⟩:=cT hc h
   refine zaa rfl fun K hK=>mv rfl rfl (mv rfl rfl ?_);refine bf hK ⟨[(2,hI x5)],[]⟩ ?_;have h:=hr4 _ h;obtain rfl:=oi h;exact AW.ret (qae (.inr rfl) (resT rfl rfl) rfl trivial)
  obtain ⟨hc,h⟩:=cF hc h;refine zac ?_;refine zab rfl fun K hK=>bv rfl (qag rfl rfl qaX) (mv rfl rfl ?_);refine qab (hK _ ?_);exact to_L ⟨IntKind.wrap .i64 (a1+1),(),h,rfl⟩
 obtain ⟨hc,h⟩:=cF hc h;refine AW.exit ?_;exact to_L ⟨(),(),h,rfl⟩
theorem qgW {p0:qaM} {p1:qaM} {r:Int} (h:qb2 p0 p1=some r):Pure Tryz.prog 83 [.agg [hI p0.1,hI p0.2.1,.str p0.2.2],.agg [hI p1.1,hI p1.2.1,.str p1.2.2]] (· = hI r):=by
 unfold qb2 at h;refine zaj Tryz.func83 rfl rfl (lb rfl) fun hf=>?_;unfold Tryz.f83;dsimp only [qaL,Nat.reduceAdd];refine zaa rfl fun K hK=>b_op rfl (qbh rfl rfl rfl ?_);refine b_op rfl (qbh rfl rfl rfl ?_);refine mv rfl rfl ?_;refine bf hK ⟨[(2,.fptr [hI p0.1,hI p0.2.1,.str p0.2.2] 0),(3,.fptr [hI p1.1,hI p1.2.1,.str p1.2.2] 0)],[]⟩ ?_;refine zao 13 follows rfl rfl fun K hK=>?_;refine sv rfl (qac qgl rfl) ?_;refine sv rfl (qad ty3 rfl (qaj rfl rfl)) ?_;refine sv rfl (qac qgl rfl) ?_;refine sv rfl (qad ty3 rfl (qaj rfl rfl)) ?_;obtain ⟨x1,h2,h⟩:=bS h;refine s_op rfl rfl (qaV rfl rfl rfl rfl (zai (qc1 h2)) ?_);refine sv rfl (qac qgk rfl) ?_;refine sv rfl (qad ty3 rfl (qaj rfl rfl)) ?_;refine sv rfl (qac qgk rfl) ?_;refine sv rfl (qad ty3 rfl (qaj rfl rfl)) ?_;obtain ⟨x3,h4,h⟩:=bS h;refine s_op rfl rfl (qaV rfl rfl rfl rfl (zai (qc1 h4)) ?_);refine s_op rfl rfl (qrp rfl rfl (qdp (cs:=[hI x1,hI x3]) ty36 ty3 rfl rfl rfl rfl rfl) ?_);obtain ⟨x5,h6,h⟩:=bS h;refine s_op rfl rfl (qaV rfl rfl rfl rfl (zai (qia h6)) ?_);refine sm rfl rfl ?_;refine qb7 ?_;refine bf hK ⟨[(4,hI x5)],[]⟩ ?_;obtain rfl:=oi h;exact AW.ret (qae (.inr rfl) (resT rfl rfl) rfl trivial)
theorem qcG {p0:List (List UInt8)} {p1:List UInt8} {r:Int} (h:qaA p0 p1=some r):Pure Tryz.prog 34 [slE eStr p0,.str p1] (· = hI r):=by
 unfold qaA at h;refine zaj Tryz.func34 rfl rfl (lb rfl) fun hf=>?_;unfold Tryz.f34;dsimp only [qaL,Nat.reduceAdd];refine zaa rfl fun K hK=>mv rfl rfl ?_;let P3:ASf:=fun t H=>⟨(0,slE eStr p0)::(1,.str p1)::t,H⟩;refine bf hK (P3 [] []) ?_;refine zad ?_;refine zaa rfl fun K hK=>mv rfl rfl (bv rfl (qav rfl rfl ty22 rfl) (mv rfl rfl ?_));let E4:Nat × HV:=(7,hI ((p0).length:Int));refine bf hK (P3 [E4,(8,hI 0)] []) ?_;refine AW.lpR h (by first | exact qa8 | exact qc3) (S:=Int) (V:=Unit) (fun a v=>(P3 [E4,(8,hI a)] [])) ?_ (X:=Unit) (W:=Unit) (fun a v=>⟨[],[]⟩) (fun a7 w8 h=>?_) (fun a1 w2 st3 h hr4=> ?_)
 ·exact to_L ⟨(),rfl⟩
 ·refine zaa rfl fun K hK=>mv rfl rfl ?_
  refine bf hK ⟨[(4,hI (-1))],[]⟩ ?_;obtain rfl:=oi h;exact AW.ret (qae (.inr rfl) (resT rfl rfl) rfl trivial)
 refine zaa rfl fun K hK=>bv rfl (qag rfl rfl qaF) ?_;refine bf hK (P3 [E4,(8,hI a1),(9,.bool (decide (a1<((p0).length:Int))))] []) ?_;refine zak rfl (fun hc=>?_) (fun hc=>?_)
 ·obtain ⟨hc,h⟩:=cT hc h
  refine zac ?_;refine zad (zaf ?_);refine zaa rfl fun K hK=>mv rfl rfl (mv rfl rfl ?_);refine bf hK (P3 [(5,hI a1),E4,(8,hI a1)] []) ?_;refine zaa rfl fun K hK=>mv rfl rfl (mv rfl rfl (mv rfl rfl ?_));obtain ⟨x5,h6,h⟩:=bS h;refine bv rfl (qaI ty22 es22 rfl rfl (qay h6)) (bv rfl (qad ty9 rfl (qaW eStr h6 (o:=0) rfl rfl)) (bv rfl (qag rfl rfl qlP) ?_));refine bf hK (P3 [(5,hI a1),E4,(8,hI a1),(16,.bool (decide (p1=x5)))] []) ?_;refine zae rfl (fun hc=>?_) (fun hc=>?_)
  ·obtain ⟨hc,h⟩:=cT hc h
   refine zaa rfl fun K hK=>mv rfl rfl (mv rfl rfl ?_);refine bf hK ⟨[(4,hI a1)],[]⟩ ?_;have h:=hr4 _ h;obtain rfl:=oi h;exact AW.ret (qae (.inr rfl) (resT rfl rfl) rfl trivial)
  obtain ⟨hc,h⟩:=cF hc h;refine zac ?_;refine zab rfl fun K hK=>bv rfl (qag rfl rfl qaX) (mv rfl rfl ?_);refine qab (hK _ ?_);exact to_L ⟨IntKind.wrap .i64 (a1+1),(),h,rfl⟩
 obtain ⟨hc,h⟩:=cF hc h;refine AW.exit ?_;exact to_L ⟨(),(),h,rfl⟩
theorem qcl {p0:List (List UInt8)} {p1:List UInt8} {r:Bool} (h:qaz p0 p1=some r):Pure Tryz.prog 33 [slE eStr p0,.str p1] (· = HV.bool r):=by
 unfold qaz at h;refine zaj Tryz.func33 rfl rfl (lb rfl) fun hf=>?_;unfold Tryz.f33;dsimp only [qaL,Nat.reduceAdd];refine zaa rfl fun K hK=>mv rfl rfl ?_;refine bf hK ⟨[(0,slE eStr p0),(1,.str p1)],[]⟩ ?_;refine zaa rfl fun K hK=>mv rfl rfl (mv rfl rfl ?_);obtain ⟨x1,h2,h⟩:=bS h;refine b_op rfl (qat rfl rfl rfl rfl (zai (qcG h2)) ?_);refine bv rfl (qag rfl rfl qgL) (mv rfl rfl ?_);refine bf hK ⟨[(4,.bool (decide (0≤x1)))],[]⟩ ?_;obtain rfl:=oi h;exact AW.ret (qae (.inr rfl) (resT rfl rfl) rfl trivial)
theorem qfd {p0:Int} {p1:Int} {p2:List (List UInt8)} {r:Bool} (h:qbX p0 p1 p2=some r):Pure Tryz.prog 84 [hI p0,hI p1,slE eStr p2] (· = HV.bool r):=by
 unfold qbX at h;refine zaj Tryz.func84 rfl rfl (lb rfl) fun hf=>?_;unfold Tryz.f84;dsimp only [qaL,Nat.reduceAdd];refine zaa rfl fun K hK=>mv rfl rfl ?_;let P4:ASf:=fun t H=>⟨(0,hI p0)::(1,hI p1)::(2,slE eStr p2)::t,H⟩;refine bf hK (P4 [] []) ?_;refine zad ?_;refine zaa rfl fun K hK=>mv rfl rfl (bv rfl (qav rfl rfl ty22 rfl) (mv rfl rfl ?_));let E5:Nat × HV:=(10,hI ((p2).length:Int));refine bf hK (P4 [(9,slE eStr p2),E5,(11,hI 0)] []) ?_;refine AW.lpR h (by first | exact qa8 | exact qc3) (S:=Int) (V:=Unit) (fun a v=>(P4 [(9,slE eStr p2),E5,(11,hI a)] [])) ?_ (X:=Unit) (W:=Unit) (fun a v=>⟨[],[]⟩) (fun a17 w18 h=>?_) (fun a1 w2 st3 h hr4=> ?_)
 ·exact to_L ⟨(),rfl⟩
 ·refine zaa rfl fun K hK=>mv rfl rfl ?_
  refine bf hK ⟨[(6,.bool true)],[]⟩ ?_;obtain rfl:=oi h;exact AW.ret (qae (.inr rfl) (resT rfl rfl) rfl trivial)
 refine zaa rfl fun K hK=>bv rfl (qag rfl rfl qaF) ?_;refine bf hK (P4 [(9,slE eStr p2),E5,(11,hI a1),(12,.bool (decide (a1<((p2).length:Int))))] []) ?_;refine zak rfl (fun hc=>?_) (fun hc=>?_)
 ·obtain ⟨hc,h⟩:=cT hc h
  refine zac ?_;refine zad (zaf ?_);refine zaa rfl fun K hK=>mv rfl rfl ?_;obtain ⟨x5,h6,h⟩:=bS h;refine bv rfl (qaI ty22 es22 rfl rfl (qay h6)) (bv rfl (qad ty9 rfl (qaW eStr h6 (o:=0) rfl rfl)) (mv rfl rfl (mv rfl rfl ?_)));refine bf hK (P4 [(7,hI a1),(8,.str x5),(9,slE eStr p2),E5,(11,hI a1)] []) ?_;refine zag h (S:=Bool) (V:=Unit) (fun a v=>(P4 [(9,slE eStr p2),E5,(11,hI a1),(32,.bool a)] [])) (fun a7 w8 h=>?_) (fun k9 h=>?_)
  ·refine zae rfl (fun hc=>?_) (fun hc=>?_)
   ·have h:=ifT hc h
    refine zaa rfl fun K hK=>mv rfl rfl ?_;refine bf hK ⟨[(6,.bool false)],[]⟩ ?_;have h:=hr4 _ h;obtain rfl:=oi h;exact AW.ret (qae (.inr rfl) (resT rfl rfl) rfl trivial)
   have h:=ifF (bF' hc) h;refine zac ?_;refine zab rfl fun K hK=>bv rfl (qag rfl rfl qaX) (mv rfl rfl ?_);refine qab (hK _ ?_);exact to_L ⟨IntKind.wrap .i64 (a1+1),(),h,rfl⟩
  refine zab rfl fun K hK=>mv rfl rfl (bv rfl (qcb rfl rfl ty9 rfl) (mv rfl rfl (bv rfl (qag rfl rfl qcv) (mv rfl rfl ?_))));by_cases hg16:((x5).length:Int)≠p1
  ·have h:=ifT hg16 h
   refine b_F rfl rfl rfl rfl rfl (decide_eq_true hg16) ?_
   iterate 3 refine b_F rfl rfl rfl rfl rfl rfl ?_
   refine bv rfl (qan rfl rfl rfl) (mv rfl rfl ?_)
   iterate 5 refine b_F rfl rfl rfl rfl rfl rfl ?_
   refine bv rfl (qan rfl rfl rfl) ?_;refine qab (hK _ ?_);exact to_L ⟨true,(),h,rfl⟩
  have h:=ifF hg16 h;refine b_T rfl rfl rfl rfl (decide_eq_false hg16) (qai rfl (qaE rfl rfl).2 ?_);refine b_T rfl rfl rfl rfl rfl (qai rfl (qaE rfl rfl).2 ?_);obtain ⟨x10,h11,h⟩:=bS h;refine b_T rfl rfl rfl rfl rfl (qat rfl rfl rfl rfl (zai (qeQ h11)) ?_);refine b_T rfl rfl rfl rfl rfl (qai rfl (qag rfl rfl qcv) ?_);refine bv rfl (qau rfl rfl rfl) (mv rfl rfl ?_);by_cases hg15:x10≠0
  ·have h:=ifT hg15 h
   refine b_F rfl rfl rfl rfl rfl (decide_eq_true hg15) ?_
   iterate 4 refine b_F rfl rfl rfl rfl rfl rfl ?_
   refine bv rfl (qan rfl rfl rfl) ?_;refine qab (hK _ ?_);exact to_L ⟨true,(),h,rfl⟩
  have h:=ifF hg15 h;refine b_T rfl rfl rfl rfl (decide_eq_false hg15) (qai rfl (qaE rfl rfl).2 ?_);refine b_T rfl rfl rfl rfl rfl (qai rfl (qaE rfl rfl).2 ?_);obtain ⟨h12,h⟩:=ifN h;refine b_T rfl rfl rfl rfl rfl (qai rfl (qep eStr ty22 es22 rfl rfl rfl h12) ?_);refine b_T rfl rfl rfl rfl rfl (qai rfl (qaE rfl rfl).2 ?_);obtain ⟨x13,h14,h⟩:=bS h;refine b_T rfl rfl rfl rfl rfl (qat rfl rfl rfl rfl (zai (qcl h14)) ?_);refine bv rfl (qau rfl rfl rfl) ?_;refine qab (hK _ ?_);exact to_L ⟨x13,(),h,rfl⟩
 obtain ⟨hc,h⟩:=cF hc h;refine AW.exit ?_;exact to_L ⟨(),(),h,rfl⟩
theorem qg7 {p0:qa4} {r:Bool} (h:qce p0=some r):Pure Tryz.prog 53 [.agg [hI p0.1,hI p0.2.1,slE eStr p0.2.2.1,slE qa2 p0.2.2.2]] (· = HV.bool r):=by
 unfold qce at h;refine zaj Tryz.func53 rfl rfl (lb rfl) fun hf=>?_;unfold Tryz.f53;dsimp only [qaL,Nat.reduceAdd];refine zaa rfl fun K hK=>b_op rfl (qbh rfl rfl rfl ?_);refine mv rfl rfl ?_;let E6:Nat × HV:=(1,.fptr [hI p0.1,hI p0.2.1,slE eStr p0.2.2.1,slE qa2 p0.2.2.2] 0);refine bf hK ⟨[E6],[]⟩ ?_;refine zad ?_;refine zag h (S:=Bool) (V:=Unit) (fun a v=>⟨[E6,(41,.bool a)],[]⟩) (fun a1 w2 h=>?_) (fun k3 h=>?_)
 ·refine zae rfl (fun hc=>?_) (fun hc=>?_)
  ·have h:=ifT hc h
   refine zaa rfl fun K hK=>mv rfl rfl ?_;refine bf hK ⟨[(2,.bool false)],[]⟩ ?_;obtain rfl:=oi h;exact AW.ret (qae (.inr rfl) (resT rfl rfl) rfl trivial)
  have h:=ifF (bF' hc) h;refine zac ?_;refine zaa rfl fun K hK=>mv rfl rfl ?_;refine bf hK ⟨[E6,(3,.v (.slice none 0 0))],[]⟩ ?_;refine zad ?_;refine zaa rfl fun K hK=>bv rfl (qac qm7 rfl) (bv rfl (qad ty58 rfl (qaj rfl rfl)) (bv rfl (qav rfl rfl ty58 rfl) (mv rfl rfl ?_)));let E7:Nat × HV:=(43,slE qa2 p0.2.2.2);let E8:Nat × HV:=(44,hI ((p0.2.2.2).length:Int));refine bf hK ⟨[E6,(3,.v (.slice none 0 0)),E7,E8,(45,hI 0)],[]⟩ ?_;refine AW.lpR h (by first | exact qa8 | exact qc3) (S:=Int × (List (List UInt8))) (V:=Nat) (fun a v=>⟨[E6,(3,.ar 53086 v eStr.k 0 ((a.2).length)),E7,E8,(45,hI a.1)],[(53086,v,.arr eStr.k 9 (eStr.E a.2))]⟩) ?_ (X:=(List (List UInt8))) (W:=Nat) (fun a v=>⟨[E6,(3,.ar 53086 v eStr.k 0 ((a).length))],[(53086,v,.arr eStr.k 9 (eStr.E a))]⟩) (fun a24 w25 h=>?_) (fun a4 w5 st6 h hr7=> ?_)
  ·refine qeE (qha 53086 3 eStr.k 9 rfl fun v23=>?_)
   exact qaZ (s':=⟨[E6,(3,.ar 53086 v23 eStr.k 0 ((([]:List (List UInt8))).length)),E7,E8,(45,hI 0)],[(53086,v23,.arr eStr.k 9 (eStr.E ([]:List (List UInt8))))]⟩) (zam ⟨rfl,arl (by first | rfl | simp only [List.length_set,qcS,qcq,List.length_reverse]),rfl,rfl,rfl,trivial⟩ ⟨rfl,trivial⟩) ⟨v23,rfl⟩
  ·refine zag h (S:=Bool) (V:=Unit) (fun a v=>⟨[(2,.bool a)],[]⟩) (fun a26 w27 h=>?_) (fun k28 h=>?_)
   ·obtain rfl:=oi h
    exact AW.ret (qae (.inr rfl) (resT rfl rfl) rfl trivial)
   refine zab rfl fun K hK=>bv rfl (qac qm8 rfl) (bv rfl (qad ty3 rfl (qaj rfl rfl)) (bv rfl (qac qlw rfl) (bv rfl (qad ty3 rfl (qaj rfl rfl)) (bv rfl (qac qj8 rfl) (bv rfl (qad ty22 rfl (qaj rfl rfl)) ?_)))));obtain ⟨x29,h30,h⟩:=bS h;refine b_op rfl (qat rfl rfl rfl rfl (zai (qfd h30)) ?_);refine mv rfl rfl ?_;by_cases hg33:x29=true
   ·have h:=ifT hg33 h
    refine b_T rfl rfl rfl rfl hg33 (qai rfl (qac qm8 rfl) ?_);refine b_T rfl rfl rfl rfl rfl (qai rfl (qad ty3 rfl (qaj rfl rfl)) ?_);refine b_T rfl rfl rfl rfl rfl (qai rfl (qac qlw rfl) ?_);refine b_T rfl rfl rfl rfl rfl (qai rfl (qad ty3 rfl (qaj rfl rfl)) ?_);refine b_T rfl rfl rfl rfl rfl (qai rfl (qag rfl rfl qpk) ?_);refine b_T rfl rfl rfl rfl rfl (qai rfl (qaE rfl rfl).2 ?_);obtain ⟨x31,h32,h⟩:=bS h;refine b_T rfl rfl rfl rfl rfl (qat rfl rfl rfl rfl (((qfd h32).fresh (by simp only [clean,qeo,and_self]) rfl).callD 2 (mc rfl (mc rfl (mc (qci eStr (l:=a24) rfl fun _ _=>rfl) rfl)))) ?_);refine bv rfl (qan rfl rfl rfl) (mv rfl rfl ?_);refine qab (hK _ ?_);exact to_L ⟨x31,(),h,rfl⟩
   have h:=ifF hg33 h;refine b_F rfl rfl rfl rfl rfl (bF hg33) ?_
   iterate 6 refine b_F rfl rfl rfl rfl rfl rfl ?_
   refine bv rfl (qau rfl rfl rfl) (mv rfl rfl ?_);refine qab (hK _ ?_);exact to_L ⟨false,(),h,rfl⟩
  refine zaa rfl fun K hK=>bv rfl (qag rfl rfl qaF) ?_;let E9:Nat × HV:=(3,.ar 53086 w5 eStr.k 0 ((a4.2).length));let O10:Nat × Nat × AObj:=(53086,w5,.arr eStr.k 9 (eStr.E a4.2));refine bf hK ⟨[E6,E9,E7,E8,(45,hI a4.1),(46,.bool (decide (a4.1<((p0.2.2.2).length:Int))))],[O10]⟩ ?_;refine zak rfl (fun hc=>?_) (fun hc=>?_)
  ·obtain ⟨hc,h⟩:=cT hc h
   refine zac ?_;refine zad (zaf ?_);refine zaa rfl fun K hK=>mv rfl rfl ?_;obtain ⟨x8,h9,h⟩:=bS h;refine bv rfl (qaI ty58 es58 rfl rfl (qay h9)) (bv rfl (qad qeD rfl (qgg qa2 h9 rfl rfl)) ?_);refine b_op rfl (qaC (fid:=53) (zs:=[hI 0,hI 0,.str nS]) 53005 rfl rfl qeD rfl (fun v10=>?_));refine mv rfl rfl ?_;refine b_op rfl (qax (cs:=[hI x8.1,hI x8.2.1,.str x8.2.2]) (zs:=[hI x8.1,hI x8.2.1,.str x8.2.2]) rfl rfl rfl qeD rfl rfl rfl rfl rfl ?_);refine bf hK ⟨[E6,E9,(4,hI a4.1),(5,.ptr 53005 v10 0),E7,E8,(45,hI a4.1)],[O10,(53005,v10,.arr 3 107 [hI x8.1,hI x8.2.1,.str x8.2.2])]⟩ ?_;refine zad ?_;refine zag h (S:=Bool) (V:=Unit) (fun a v=>⟨[E6,E9,(5,.ptr 53005 v10 0),E7,E8,(45,hI a4.1),(81,.bool a)],[(53005,v10,.arr 3 107 [hI x8.1,hI x8.2.1,.str x8.2.2]),O10]⟩) (fun a11 w12 h=>?_) (fun k13 h=>?_)
   ·refine zae rfl (fun hc=>?_) (fun hc=>?_)
    ·have h:=ifT hc h
     refine zaa rfl fun K hK=>mv rfl rfl ?_;refine bf hK ⟨[(2,.bool false)],[]⟩ ?_;have h:=hr7 _ h;obtain rfl:=oi h;exact AW.ret (qae (.inr rfl) (resT rfl rfl) rfl trivial)
    have h:=ifF (bF' hc) h;refine zac ?_;refine zab rfl fun K hK=>mv rfl rfl (bv rfl (qal qjq rfl rfl) (bv rfl (qaf ty9 rfl rfl (qaj rfl rfl)) ?_));refine b_op rfl (qdx rfl rfl (qdp (cs:=[.str x8.2.2]) ty22 ty9 rfl rfl rfl rfl rfl) ?_);obtain ⟨h15,h⟩:=ifN h;refine b_op rfl (qeF eStr (l:=a4.2) (m:=[x8.2.2]) rfl rfl ty22 ty22 ty9 rfl rfl rfl rfl rfl h15 (fun v14=>?_));refine mv rfl rfl ?_;refine bf hK ⟨[E6,(3,.ar 53086 v14 eStr.k 0 ((a4.2++[x8.2.2]).length)),E7,E8,(45,hI a4.1)],[(53086,v14,.arr eStr.k 9 (eStr.E (a4.2++[x8.2.2])))]⟩ ?_;refine zab rfl fun K hK=>bv rfl (qag rfl rfl qaX) (mv rfl rfl ?_);refine qab (hK _ ?_);exact to_L ⟨(IntKind.wrap .i64 (a4.1+1),a4.2++[x8.2.2]),v14,h,rfl⟩
   refine AW.dg 32 follows rfl rfl fun K hK=>?_;refine sv rfl (qal qgl rfl rfl) ?_;refine sv rfl (qaf ty3 rfl rfl (qaj rfl rfl)) ?_;refine sv rfl (qal qgk rfl rfl) ?_;refine sv rfl (qaf ty3 rfl rfl (qaj rfl rfl)) ?_;refine sv rfl (qr2 rfl rfl rfl) ?_;refine sv rfl (qag rfl rfl qaF) ?_;refine sm rfl rfl ?_;by_cases hg22:(min x8.1 x8.2.1)<0
   ·have h:=ifT hg22 h
    refine s_F rfl rfl rfl rfl rfl (decide_eq_true hg22) ?_
    iterate 8 refine s_F rfl rfl rfl rfl rfl rfl ?_
    refine sv rfl (qan rfl rfl rfl) ?_;refine sm rfl rfl ?_
    iterate 3 refine s_F rfl rfl rfl rfl rfl rfl ?_
    refine s_U rfl rfl rfl rfl rfl ?_;refine s_U rfl rfl rfl rfl rfl ?_;refine s_U rfl rfl rfl rfl rfl ?_;refine s_U rfl rfl rfl rfl rfl ?_;refine s_U rfl rfl rfl rfl rfl ?_;refine s_U rfl rfl rfl rfl rfl ?_;refine s_U rfl rfl rfl rfl rfl ?_;refine s_U rfl rfl rfl rfl rfl ?_;refine s_U rfl rfl rfl rfl rfl ?_;refine s_F rfl rfl rfl rfl rfl rfl ?_;refine sv rfl (qan rfl rfl rfl) ?_;refine qb7 ?_;refine qab (hK _ ?_);exact to_L ⟨true,(),h,rfl⟩
   have h:=ifF hg22 h;refine s_T rfl rfl rfl rfl rfl (decide_eq_false hg22) (qbe rfl (qal qgl rfl rfl) ?_);refine s_T rfl rfl rfl rfl rfl rfl (qbe rfl (qaf ty3 rfl rfl (qaj rfl rfl)) ?_);refine s_T rfl rfl rfl rfl rfl rfl (qbe rfl (qal qgk rfl rfl) ?_);refine s_T rfl rfl rfl rfl rfl rfl (qbe rfl (qaf ty3 rfl rfl (qaj rfl rfl)) ?_);refine s_T rfl rfl rfl rfl rfl rfl (qbe rfl (qk2 rfl rfl rfl) ?_);refine s_T rfl rfl rfl rfl rfl rfl (qbe rfl (qac qj8 rfl) ?_);refine s_T rfl rfl rfl rfl rfl rfl (qbe rfl (qad ty22 rfl (qaj rfl rfl)) ?_);refine s_T rfl rfl rfl rfl rfl rfl (qbe rfl (qav rfl rfl ty22 rfl) ?_);refine s_T rfl rfl rfl rfl rfl rfl (qbe rfl (qag rfl rfl qgL) ?_);refine sv rfl (qau rfl rfl rfl) ?_;refine sm rfl rfl ?_;by_cases hg21:((p0.2.2.1).length:Int)≤(max x8.1 x8.2.1)
   ·have h:=ifT hg21 h
    refine s_F rfl rfl rfl rfl rfl (decide_eq_true hg21) ?_
    iterate 2 refine s_F rfl rfl rfl rfl rfl rfl ?_
    refine s_U rfl rfl rfl rfl rfl ?_;refine s_U rfl rfl rfl rfl rfl ?_;refine s_U rfl rfl rfl rfl rfl ?_;refine s_U rfl rfl rfl rfl rfl ?_;refine s_U rfl rfl rfl rfl rfl ?_;refine s_U rfl rfl rfl rfl rfl ?_;refine s_U rfl rfl rfl rfl rfl ?_;refine s_U rfl rfl rfl rfl rfl ?_;refine s_U rfl rfl rfl rfl rfl ?_;refine s_F rfl rfl rfl rfl rfl rfl ?_;refine sv rfl (qan rfl rfl rfl) ?_;refine qb7 ?_;refine qab (hK _ ?_);exact to_L ⟨true,(),h,rfl⟩
   have h:=ifF hg21 h;refine s_T rfl rfl rfl rfl rfl (decide_eq_false hg21) (qbe rfl (qaE rfl rfl).2 ?_);refine s_T rfl rfl rfl rfl rfl rfl (qbe rfl (qag rfl rfl qbB) ?_);refine s_T rfl rfl rfl rfl rfl rfl (qbe rfl (qaE rfl rfl).2 ?_);by_cases hg20:0<a4.1
   ·have h:=ifT hg20 h
    refine s_T rfl rfl rfl rfl rfl (decide_eq_true hg20) (qbe rfl (qac qm7 rfl) ?_);refine s_T rfl rfl rfl rfl rfl rfl (qbe rfl (qad ty58 rfl (qaj rfl rfl)) ?_);refine s_T rfl rfl rfl rfl rfl rfl (qbe rfl (qaE rfl rfl).2 ?_);refine s_T rfl rfl rfl rfl rfl rfl (qbe rfl (qag rfl rfl qfX) ?_);obtain ⟨x16,h17,h⟩:=bS h;refine s_T rfl rfl rfl rfl rfl rfl (qbe rfl (qaI ty58 es58 rfl rfl (qay h17)) ?_);refine s_T rfl rfl rfl rfl rfl rfl (qbe rfl (qad qeD rfl (qgg qa2 h17 rfl rfl)) ?_);refine s_T rfl rfl rfl rfl rfl rfl (qbe rfl (qaf qeD rfl rfl (qao rfl (lb rfl) rfl)) ?_);obtain ⟨x18,h19,h⟩:=bS h;refine s_T rfl rfl rfl rfl rfl rfl (qaV rfl rfl rfl rfl (zai (qgW h19)) ?_);refine s_T rfl rfl rfl rfl rfl rfl (qbe rfl (qag rfl rfl qgL) ?_);refine s_T rfl rfl rfl rfl rfl rfl (qbe rfl (qan rfl rfl rfl) ?_);refine sv rfl (qau rfl rfl rfl) ?_;refine qb7 ?_;refine qab (hK _ ?_);exact to_L ⟨decide (0≤x18),(),h,rfl⟩
   have h:=ifF hg20 h;refine s_F rfl rfl rfl rfl rfl (decide_eq_false hg20) ?_
   iterate 8 refine s_F rfl rfl rfl rfl rfl rfl ?_
   refine s_T rfl rfl rfl rfl rfl rfl (qbe rfl (qau rfl rfl rfl) ?_);refine sv rfl (qau rfl rfl rfl) ?_;refine qb7 ?_;refine qab (hK _ ?_);exact to_L ⟨false,(),h,rfl⟩
  obtain ⟨hc,h⟩:=cF hc h;refine AW.exit ?_;exact to_L ⟨a4.2,w5,h,rfl⟩
 refine zab rfl fun K hK=>bv rfl (qac qm8 rfl) (bv rfl (qad ty3 rfl (qaj rfl rfl)) (bv rfl (qag rfl rfl qaF) (mv rfl rfl ?_)));by_cases hg39:p0.1<2
 ·have h:=ifT hg39 h
  refine b_F rfl rfl rfl rfl rfl (decide_eq_true hg39) ?_
  iterate 2 refine b_F rfl rfl rfl rfl rfl rfl ?_
  refine bv rfl (qan rfl rfl rfl) (mv rfl rfl ?_)
  iterate 3 refine b_F rfl rfl rfl rfl rfl rfl ?_
  refine bv rfl (qan rfl rfl rfl) (mv rfl rfl ?_)
  iterate 3 refine b_F rfl rfl rfl rfl rfl rfl ?_
  refine bv rfl (qan rfl rfl rfl) (mv rfl rfl ?_)
  iterate 4 refine b_F rfl rfl rfl rfl rfl rfl ?_
  refine bv rfl (qan rfl rfl rfl) (mv rfl rfl ?_)
  iterate 4 refine b_F rfl rfl rfl rfl rfl rfl ?_
  refine bv rfl (qan rfl rfl rfl) (mv rfl rfl ?_)
  iterate 4 refine b_F rfl rfl rfl rfl rfl rfl ?_
  refine bv rfl (qan rfl rfl rfl) ?_;refine qab (hK _ ?_);exact to_L ⟨true,(),h,rfl⟩
 have h:=ifF hg39 h;refine b_T rfl rfl rfl rfl (decide_eq_false hg39) (qai rfl (qac qm8 rfl) ?_);refine b_T rfl rfl rfl rfl rfl (qai rfl (qad ty3 rfl (qaj rfl rfl)) ?_);refine b_T rfl rfl rfl rfl rfl (qai rfl (qag rfl rfl qbB) ?_);refine bv rfl (qau rfl rfl rfl) (mv rfl rfl ?_);by_cases hg38:16<p0.1
 ·have h:=ifT hg38 h
  refine b_F rfl rfl rfl rfl rfl (decide_eq_true hg38) ?_
  iterate 2 refine b_F rfl rfl rfl rfl rfl rfl ?_
  refine bv rfl (qan rfl rfl rfl) (mv rfl rfl ?_)
  iterate 3 refine b_F rfl rfl rfl rfl rfl rfl ?_
  refine bv rfl (qan rfl rfl rfl) (mv rfl rfl ?_)
  iterate 4 refine b_F rfl rfl rfl rfl rfl rfl ?_
  refine bv rfl (qan rfl rfl rfl) (mv rfl rfl ?_)
  iterate 4 refine b_F rfl rfl rfl rfl rfl rfl ?_
  refine bv rfl (qan rfl rfl rfl) (mv rfl rfl ?_)
  iterate 4 refine b_F rfl rfl rfl rfl rfl rfl ?_
  refine bv rfl (qan rfl rfl rfl) ?_;refine qab (hK _ ?_);exact to_L ⟨true,(),h,rfl⟩
 have h:=ifF hg38 h;refine b_T rfl rfl rfl rfl (decide_eq_false hg38) (qai rfl (qac qlw rfl) ?_);refine b_T rfl rfl rfl rfl rfl (qai rfl (qad ty3 rfl (qaj rfl rfl)) ?_);refine b_T rfl rfl rfl rfl rfl (qai rfl (qag rfl rfl qaF) ?_);refine bv rfl (qau rfl rfl rfl) (mv rfl rfl ?_);by_cases hg37:p0.2.1<1
 ·have h:=ifT hg37 h
  refine b_F rfl rfl rfl rfl rfl (decide_eq_true hg37) ?_
  iterate 2 refine b_F rfl rfl rfl rfl rfl rfl ?_
  refine bv rfl (qan rfl rfl rfl) (mv rfl rfl ?_)
  iterate 4 refine b_F rfl rfl rfl rfl rfl rfl ?_
  refine bv rfl (qan rfl rfl rfl) (mv rfl rfl ?_)
  iterate 4 refine b_F rfl rfl rfl rfl rfl rfl ?_
  refine bv rfl (qan rfl rfl rfl) (mv rfl rfl ?_)
  iterate 4 refine b_F rfl rfl rfl rfl rfl rfl ?_
  refine bv rfl (qan rfl rfl rfl) ?_;refine qab (hK _ ?_);exact to_L ⟨true,(),h,rfl⟩
 have h:=ifF hg37 h;refine b_T rfl rfl rfl rfl (decide_eq_false hg37) (qai rfl (qac qlw rfl) ?_);refine b_T rfl rfl rfl rfl rfl (qai rfl (qad ty3 rfl (qaj rfl rfl)) ?_);refine b_T rfl rfl rfl rfl rfl (qai rfl (qag rfl rfl qbB) ?_);refine bv rfl (qau rfl rfl rfl) (mv rfl rfl ?_);by_cases hg36:8<p0.2.1
 ·have h:=ifT hg36 h
  refine b_F rfl rfl rfl rfl rfl (decide_eq_true hg36) ?_
  iterate 3 refine b_F rfl rfl rfl rfl rfl rfl ?_
  refine bv rfl (qan rfl rfl rfl) (mv rfl rfl ?_)
  iterate 4 refine b_F rfl rfl rfl rfl rfl rfl ?_
  refine bv rfl (qan rfl rfl rfl) (mv rfl rfl ?_)
  iterate 4 refine b_F rfl rfl rfl rfl rfl rfl ?_
  refine bv rfl (qan rfl rfl rfl) ?_;refine qab (hK _ ?_);exact to_L ⟨true,(),h,rfl⟩
 have h:=ifF hg36 h;refine b_T rfl rfl rfl rfl (decide_eq_false hg36) (qai rfl (qac qj8 rfl) ?_);refine b_T rfl rfl rfl rfl rfl (qai rfl (qad ty22 rfl (qaj rfl rfl)) ?_);refine b_T rfl rfl rfl rfl rfl (qai rfl (qav rfl rfl ty22 rfl) ?_);refine b_T rfl rfl rfl rfl rfl (qai rfl (qag rfl rfl qaF) ?_);refine bv rfl (qau rfl rfl rfl) (mv rfl rfl ?_);by_cases hg35:((p0.2.2.1).length:Int)<2
 ·have h:=ifT hg35 h
  refine b_F rfl rfl rfl rfl rfl (decide_eq_true hg35) ?_
  iterate 3 refine b_F rfl rfl rfl rfl rfl rfl ?_
  refine bv rfl (qan rfl rfl rfl) (mv rfl rfl ?_)
  iterate 4 refine b_F rfl rfl rfl rfl rfl rfl ?_
  refine bv rfl (qan rfl rfl rfl) ?_;refine qab (hK _ ?_);exact to_L ⟨true,(),h,rfl⟩
 have h:=ifF hg35 h;refine b_T rfl rfl rfl rfl (decide_eq_false hg35) (qai rfl (qac qj8 rfl) ?_);refine b_T rfl rfl rfl rfl rfl (qai rfl (qad ty22 rfl (qaj rfl rfl)) ?_);refine b_T rfl rfl rfl rfl rfl (qai rfl (qav rfl rfl ty22 rfl) ?_);refine b_T rfl rfl rfl rfl rfl (qai rfl (qag rfl rfl qbB) ?_);refine bv rfl (qau rfl rfl rfl) (mv rfl rfl ?_);by_cases hg34:16<((p0.2.2.1).length:Int)
 ·have h:=ifT hg34 h
  refine b_F rfl rfl rfl rfl rfl (decide_eq_true hg34) ?_
  iterate 3 refine b_F rfl rfl rfl rfl rfl rfl ?_
  refine bv rfl (qan rfl rfl rfl) ?_;refine qab (hK _ ?_);exact to_L ⟨true,(),h,rfl⟩
 have h:=ifF hg34 h;refine b_T rfl rfl rfl rfl (decide_eq_false hg34) (qai rfl (qac qm7 rfl) ?_);refine b_T rfl rfl rfl rfl rfl (qai rfl (qad ty58 rfl (qaj rfl rfl)) ?_);refine b_T rfl rfl rfl rfl rfl (qai rfl (qav rfl rfl ty58 rfl) ?_);refine b_T rfl rfl rfl rfl rfl (qai rfl (qag rfl rfl qbB) ?_);refine bv rfl (qau rfl rfl rfl) ?_;refine qab (hK _ ?_);exact to_L ⟨decide (64<((p0.2.2.2).length:Int)),(),h,rfl⟩
end Go.AW

namespace Go.AW
open Go Go.Proofs
set_option maxHeartbeats 1600000
set_option maxRecDepth 100000
theorem qgF {p0:Int} {c0:qa4} {r:Bool} (h:qbM p0 c0=some r):Pure Tryz.prog 55 [hI p0,.fptr [hI c0.1,hI c0.2.1,slE eStr c0.2.2.1,slE qa2 c0.2.2.2] 0] (· = HV.bool r):=by
 unfold qbM at h;refine zaj Tryz.func55 rfl rfl (lb rfl) fun hf=>?_;unfold Tryz.f55;dsimp only [qaL,Nat.reduceAdd];refine zaa rfl fun K hK=>mv rfl rfl ?_;refine bf hK ⟨[(0,hI p0),(1,.fptr [hI c0.1,hI c0.2.1,slE eStr c0.2.2.1,slE qa2 c0.2.2.2] 0)],[]⟩ ?_;refine zag h (S:=Bool) (V:=Unit) (fun a v=>⟨[(3,.bool a)],[]⟩) (fun a1 w2 h=>?_) (fun k3 h=>?_)
 ·obtain rfl:=oi h
  exact AW.ret (qae (.inr rfl) (resT rfl rfl) rfl trivial)
 refine zab rfl fun K hK=>mv rfl rfl (bv rfl (qag rfl rfl qaF) (mv rfl rfl ?_));by_cases hg4:p0<0
 ·have h:=ifT hg4 h
  refine b_F rfl rfl rfl rfl rfl (decide_eq_true hg4) ?_
  iterate 4 refine b_F rfl rfl rfl rfl rfl rfl ?_
  refine bv rfl (qan rfl rfl rfl) (mv rfl rfl ?_);refine qab (hK _ ?_);exact to_L ⟨true,(),h,rfl⟩
 have h:=ifF hg4 h;refine b_T rfl rfl rfl rfl (decide_eq_false hg4) (qai rfl (qaE rfl rfl).2 ?_);refine b_T rfl rfl rfl rfl rfl (qai rfl (qac qj8 rfl) ?_);refine b_T rfl rfl rfl rfl rfl (qai rfl (qad ty22 rfl (qaj rfl rfl)) ?_);refine b_T rfl rfl rfl rfl rfl (qai rfl (qav rfl rfl ty22 rfl) ?_);refine b_T rfl rfl rfl rfl rfl (qai rfl (qag rfl rfl qgL) ?_);refine bv rfl (qau rfl rfl rfl) (mv rfl rfl ?_);refine qab (hK _ ?_);exact to_L ⟨decide (((c0.2.2.1).length:Int)≤p0),(),h,rfl⟩
end Go.AW

namespace Go.AW
open Go
structure Lq {α:Type} (x y:Option α):Prop where
 ap:∀ r,x=some r→y=some r
theorem Lq.refl {α:Type} (x:Option α):Lq x x:=⟨fun _ h=>h⟩
theorem Lq.none {α:Type} {y:Option α}:Lq Option.none y:=⟨fun _ h=>by cases h⟩
theorem Lq.bind {α β:Type} {x y:Option α} {f g:α→Option β} (h:Lq x y) (hk:∀ a,Lq (f a) (g a)):Lq (x.bind f) (y.bind g):=by
 refine ⟨fun r hr=>?_⟩;obtain ⟨a,ha,hf⟩:=bS hr;rw [h.ap a ha];exact (hk a).ap r hf
theorem zaq {α:Type} {p:Prop} [Decidable p] {a a' b b':Option α} (h1:Lq a a') (h2:Lq b b'):Lq (if p then a else b) (if p then a' else b'):=by
 refine ⟨fun r hr=>?_⟩;by_cases hp:p
 ·rw [if_pos hp] at hr ⊢; exact h1.ap r hr
 rw [if_neg hp] at hr ⊢; exact h2.ap r hr
theorem Lq.jp {S R:Type} {M M':S→Option R} {B B':(S→Option R)→Option R} (hM:∀ a,Lq (M a) (M' a)) (hB:∀ k k':S→Option R,(∀ a,Lq (k a) (k' a))→Lq (B k) (B' k')):Lq (Go.AW.jp M B) (Go.AW.jp M' B'):=hB _ _ hM
theorem qlq {S X:Type} {f g:S→Option (Stp S X)} (h:∀ s,Lq (f s) (g s)):∀ (n:Nat) (s:S) (r:X),iter f n s=some r→iter g n s=some r
 | 0,_,_,hr=>hr
 | n+1,s,r,hr=>by
  simp only [iter] at hr ⊢;split at hr
  ·rename_i s' hs
   rw [(h s).ap _ hs];exact qlq h n s' r hr
  ·rename_i x hs
   rw [(h s).ap _ hs];exact hr
  cases hr
def qgI {S X:Type} (body:S→Option (Stp S X)) (s:S):Option X:=iter body 1000000 s
theorem Lq.loop {S X:Type} {f g:S→Option (Stp S X)} {s:S} (h:∀ s,Lq (f s) (g s)):Lq (qgI f s) (loopW g s):=⟨fun r hr=>qiP (qlq h _ s r hr)⟩
theorem Lq.lpO {V R Y:Type} {x y:Option (Ou V R)} {M M':V→Option Y} {Rt Rt':R→Option Y} (h:Lq x y) (hM:∀ v,Lq (M v) (M' v)) (hR:∀ r,Lq (Rt r) (Rt' r)):Lq (Go.AW.lpO x M Rt) (Go.AW.lpO y M' Rt'):=by
 refine ⟨fun r hr=>?_⟩;unfold Go.AW.lpO at hr ⊢;split at hr
 ·rename_i v
  rw [h.ap _ rfl]; exact (hM v).ap r hr
 ·rename_i v
  rw [h.ap _ rfl]; exact (hR v).ap r hr
 cases hr
theorem qlu {S α X:Type} {f g:S→α→Option (Stp S X)} (h:∀ s a,Lq (f s a) (g s a)):∀ (l:List α) (s:S) (r:Ou S X),forL f l s=some r→forL g l s=some r
 | [],_,_,hr=>hr
 | x::l,s,r,hr=>by
  simp only [forL] at hr ⊢;split at hr
  ·rename_i s' hs
   rw [(h s x).ap _ hs];exact qlu h l s' r hr
  ·rename_i y hs
   rw [(h s x).ap _ hs];exact hr
  cases hr
theorem Lq.forL {S α X:Type} {f g:S→α→Option (Stp S X)} {l:List α} {s:S} (h:∀ s a,Lq (f s a) (g s a)):Lq (Go.AW.forL f l s) (Go.AW.forL g l s):=⟨qlu h l s⟩
def qck (p0:qbF) (p1:List UInt8) (p2:Int):Option ((List (List UInt8))) :=
 if p1≠([]:List UInt8) then
  (idx p1 0).bind fun x1 =>
  if (x1.toNat:Int)≠p2 then
   some []
  else
   if 0≤(1:Int)∧(1:Int)≤((p1).length:Int)∧((p1).length:Int)≤(p1.length:Int) then
    some [(p1.take (((p1).length:Int)).toNat).drop (1:Int).toNat]
   else none
 else
  (qgI (S := Int × (List (List UInt8))) (X:=(List (List UInt8))) (fun a4 =>
      if a4.1<((p0.2).length:Int) then
       jp (fun (a8:(List (List UInt8))) =>
         some (Stp.next (IntKind.wrap .i64 (a4.1+1),a8)))
         fun k10 =>
        (idx p0.2 a4.1).bind fun x11 =>
        (idx x11 0).bind fun x13 =>
        if (x13.toNat:Int)=p2 then
         if 0≤(1:Int)∧(1:Int)≤((x11).length:Int)∧((x11).length:Int)≤(x11.length:Int) then
          if fits 16 ((a4.2:List (List UInt8)).length+([(x11.take (((x11).length:Int)).toNat).drop (1:Int).toNat]).length) then
           k10 (a4.2++[(x11.take (((x11).length:Int)).toNat).drop (1:Int).toNat])
          else none
         else none
        else
         k10 a4.2
      else
       some (Stp.exit a4.2)) (0,([]:List (List UInt8)))).bind fun a19 =>
  some a19
set_option maxHeartbeats 1600000 in
theorem lz_delay_rests {p0:qbF} {p1:List UInt8} {p2:Int}:Lq (qck p0 p1 p2) (qbN p0 p1 p2):=by
 unfold qck qbN
 repeat' with_reducible first | intro _ | exact Lq.refl _ | exact Lq.none | apply zaq | apply Lq.bind | apply Lq.jp | apply Lq.loop | apply Lq.lpO | apply Lq.forL | apply_assumption
def qcn (p0 : qkY) (p1:qah) (p2:Int):Option ((List (qah))) :=
 (qck (p0.1.1,p0.1.2) p1.1 p2).bind fun x1 =>
 (qgI (S := Int × (List qah)) (X:=(List qah)) (fun a3 =>
     if a3.1<((x1).length:Int) then
      (idx x1 a3.1).bind fun x7 =>
      (qck (p0.1.1,p0.1.2) p1.2 p2).bind fun x9 =>
      (qgI (S:=Int × (List qah)) (X:=(List qah)) (fun a11 =>
          if a11.1<((x9).length:Int) then
           (idx x9 a11.1).bind fun x15 =>
           if fits 32 ((a11.2:List qah).length+([(x7,x15)]).length) then
            some (Stp.next (IntKind.wrap .i64 (a11.1+1),a11.2++[(x7,x15)]))
           else none
          else
           some (Stp.exit a11.2)) (0,a3.2)).bind fun a19 =>
      some (Stp.next (IntKind.wrap .i64 (a3.1+1),a19))
     else
      some (Stp.exit a3.2)) (0,([]:List qah))).bind fun a22 =>
 some a22
set_option maxHeartbeats 1600000 in
theorem lz_delay_races_after {p0:qkY} {p1:qah} {p2:Int}:Lq (qcn p0 p1 p2) (qaU p0 p1 p2):=by
 unfold qcn qaU
 repeat' with_reducible first | intro _ | exact Lq.refl _ | exact Lq.none | apply zaq | apply Lq.bind | apply Lq.jp | apply Lq.loop | apply Lq.lpO | apply Lq.forL | apply_assumption | apply lz_delay_rests
abbrev qgK:qbF:=(2,[[48],[48,48,49]])
theorem qpQ:qbN qgK [] 48=some [[],[48,49]]:=lz_delay_rests.ap _ (by decide +kernel:qck qgK [] 48=some [[],[48,49]])
theorem qmM:qbN qgK [] 49=some []:=lz_delay_rests.ap _ (by decide +kernel:qck qgK [] 49=some [])
theorem qmL:qbN qgK [48,49] 49=some []:=lz_delay_rests.ap _ (by decide +kernel:qck qgK [48,49] 49=some [])
theorem qn2 (z:Nat × Nat) (x:qah) (l:Int):qcn (qgK,z) x l=qcn (qgK,(0,0)) x l:=rfl
theorem qqE (z:Nat × Nat):qaU (qgK,z) ([],[48,49]) 48=some [([],[49]),([48,49],[49])]:=lz_delay_races_after.ap _ ((qn2 z ([],[48,49]) 48).trans (by decide +kernel))
theorem qqD (z:Nat × Nat):qaU (qgK,z) ([],[48,49]) 49=some []:=lz_delay_races_after.ap _ ((qn2 z ([],[48,49]) 49).trans (by decide +kernel))
theorem qqC (z:Nat × Nat):qaU (qgK,z) ([],[49]) 48=some []:=lz_delay_races_after.ap _ ((qn2 z ([],[49]) 48).trans (by decide +kernel))
theorem qqB (z:Nat × Nat):qaU (qgK,z) ([],[49]) 49=some []:=lz_delay_races_after.ap _ ((qn2 z ([],[49]) 49).trans (by decide +kernel))
theorem qqA (z:Nat × Nat):qaU (qgK,z) ([48,49],[49]) 48=some []:=lz_delay_races_after.ap _ ((qn2 z ([48,49],[49]) 48).trans (by decide +kernel))
theorem qqz (z:Nat × Nat):qaU (qgK,z) ([48,49],[49]) 49=some []:=lz_delay_races_after.ap _ ((qn2 z ([48,49],[49]) 49).trans (by decide +kernel))
section
open Go Go.MapKept
structure IsKv (P:Program) (kt:TypeId) (h:HV) (v:Value):Prop where
 rep:∀ w μ x,Rep w μ h x→x=v
 lit:∃ l,keyOf P kt v=some l
def noIt (id:Nat) (H:Heap):Prop:=∀ j v mv seen cur,hget H j≠some (v,.iter id mv seen cur)
theorem qa7 {id:Nat}:noIt id []:=fun _ _ _ _ _ h=>by cases h
theorem qaK {id i v:Nat} {o:AObj} {H:Heap} (ho:∀ mv seen cur,o ≠ .iter id mv seen cur) (h:noIt id H):noIt id ((i,v,o)::H):=fun j u mv seen cur hj=>by
 simp only [hget] at hj;split at hj
 ·cases hj; exact ho _ _ _ rfl
 exact h _ _ _ _ _ hj
section
variable {P:Program} {ro:Option Nat} {N:Nat} {s:AS} {w w':World} {μ:Mu} {H:Heap}
structure KPut (es es':List (Value × Value)) (kv v:Value):Prop where
 old:∀ e∈es',e∈es∨e=(kv,v)
 new:(kv,v)∈es'
 keep:∀ e∈es,e.1≠kv→e∈es'
end
section
variable {P:Program} {ro:Option Nat} {N:Nat} {o:Oper} {sl:List (Nat × HV)} {H:Heap} {all:Array Oper} {rest:List Oper} {K:AS→Prop}
theorem qnI {s:AS} {rvs:List ResultVar} {hs:List HV} {q:HV} {e:Exit} {K:HV→Heap→Prop} (he:e=.normal∨e=.ret) (hr:qdD P s rvs fun hs'=>hs'=hs) (hj:qlp hs=q) (hk:K q s.heap):retQ P rvs K e s :=
 ⟨he,qi9 hr fun hs' e=>by subst e; exact ⟨q,s.heap,by rw [hj]; exact Conv.refl _ _,hk⟩⟩
end
end
section
open Go Go.MapKept
section
variable {K V:Type}
structure KeyT (P:Program) (kt:TypeId) (kh:K→HV) (kf:K→Value) (wf:K→Bool):Prop where
 law:Go.Maps.Keyed P kt
 inj:∀ a b,kf a=kf b→a=b
 kv:∀ k,wf k=true→IsKv P kt (kh k) (kf k)
variable {P:Program} {kt:TypeId} {kh:K→HV} {kf:K→Value} {wf:K→Bool}
variable [DecidableEq K] [DecidableEq V]
end
section
variable {P:Program} {ro:Option Nat} {N:Nat} {o:Oper} {sl:List (Nat × HV)} {H:Heap} {all:Array Oper} {rest:List Oper} {Q:AS→Prop}
variable {K V:Type} [DecidableEq K] [DecidableEq V] {kt:TypeId} {kh:K→HV} {kf:K→Value} {wf:K→Bool}
end
theorem qm0 {α:Type} (c:EncL α) {T:TyI} {l:List α} {j:Int} {x:α} (h:idx l j=some x) {o:Nat} {cs:List HV} (ha:aggD T.desc=true) (hs:o+T.size≤c.k) (hc:((c.C x).drop o).take T.size=cs):qdI T (c.E l) (j.toNat*c.k+o) (· = .agg cs):=by
 have h1:=qay h;refine qao ha ?_ ?_
 ·rw [c.len]
  have:(j.toNat+1)*c.k≤l.length*c.k:=Nat.mul_le_mul_right _ (by omega);rw [Nat.succ_mul] at this;omega
 rw [← hc,← c.part h,List.drop_take,List.drop_drop,List.take_take,Nat.min_eq_left (by omega)]
structure RevI (P:Program) (f:FuncId):Prop where
 arr:∀ (H:Heap) (id ver:Nat) (e:TypeId) (l:List Int) (K:HV→Heap→Prop),hget H id=some (ver,.arr 1 e (l.map (.int .i64)))→l.length<4611686018427387904→K (.tup []) (hset H id ver (.arr 1 e (l.reverse.map (.int .i64))))→ACall P f [.ar id ver 1 0 l.length] H K
section
variable {P:Program} {ro:Option Nat} {N:Nat} {o:Oper} {sl:List (Nat × HV)} {H:Heap} {all:Array Oper} {rest:List Oper} {K:AS→Prop}
end
end
section
open Go Go.MapKept
section
variable {K:Type}
def gcan (kf:K→Value) (e:List (K × HV)):List (Value × HV):=e.map fun x=>(kf x.1,x.2)
variable [DecidableEq K]
def qdJ (k:K):List (K × HV)→Option HV
 | []=>none
 | (q,h)::l=>if q=k then some h else qdJ k l
def gput (k:K) (v:HV):List (K × HV)→List (K × HV)
 | []=>[(k,v)]
 | (q,h)::l=>if q=k then (k,v)::l else (q,h)::gput k v l
theorem qhV {k:K}:∀ {l:List (K × HV)},qdJ k l=none↔∀ x∈l,x.1≠k
 | []=>by simp [qdJ]
 | (q,h)::l=>by
  unfold qdJ;split
  ·rename_i e; simp [e]
  rename_i e; rw [qhV]; simp [e]
theorem qm4 {k:K} {v:HV}:∀ {l:List (K × HV)},qdJ k l=none→gput k v l=l++[(k,v)]
 | [],_=>rfl
 | (q,h)::l,hh=>by
  unfold qdJ at hh;unfold gput;split at hh
  ·cases hh
  rename_i e
  rw [if_neg e,qm4 hh]; rfl
theorem qiR {k:K}:∀ {l:List (K × HV)} {j:Nat} {h:HV},(l.map (·.1)).Nodup→l[j]?=some (k,h)→qdJ k l=some h∧∀ v,gput k v l=l.modify j fun x=>(x.1,v)
 | [],_,_,_,hj=>by simp at hj
 | (q,g)::l,0,h,hn,hj=>by
  have e:q=k∧g=h:=by simpa using hj
  obtain ⟨rfl,rfl⟩:=e;exact ⟨by simp [qdJ],fun v=>by simp [gput]⟩
 | (q,g)::l,j+1,h,hn,hj=>by
  simp only [List.map_cons,List.nodup_cons] at hn
  have hj:l[j]?=some (k,h):=by simpa using hj
  have hq:q≠k:=fun e=>hn.1 (by rw [e]; exact List.mem_map.2 ⟨_,List.mem_of_getElem? hj,rfl⟩);obtain ⟨h1,h2⟩:=qiR hn.2 hj;exact ⟨by simp [qdJ,hq,h1],fun v=>by simp [gput,hq,h2]⟩
end
section
variable {P:Program} {ro:Option Nat} {N:Nat} {s:AS} {w w':World} {μ:Mu} {H:Heap}
variable {K:Type} {kt:TypeId} {kh:K→HV} {kf:K→Value} {wf:K→Bool}
theorem qgz {e:List (K × HV)} {ents:List MapEntry} (hk:ents.map (·.key)=(gcan kf e).map (·.1)) {j:Nat} {x:MapEntry} (he:ents[j]?=some x):∃ p,e[j]?=some p∧x.key=kf p.1:=by
 have h1:(ents.map (·.key))[j]?=some x.key:=by rw [List.getElem?_map,he]; rfl
 rw [hk] at h1;simp only [gcan,List.map_map,List.getElem?_map] at h1
 cases hp:e[j]? with
 | none=>rw [hp] at h1; cases h1
 | some p=>rw [hp] at h1; exact ⟨p,rfl,(Option.some.inj h1).symm⟩
theorem qoZ (e:List (K × HV)):(gcan kf e).map (·.2)=e.map (·.2):=by simp [gcan]
theorem qj5 (hinj:∀ a b,kf a=kf b→a=b) {e:List (K × HV)}:((gcan kf e).map (·.1)).Nodup↔(e.map (·.1)).Nodup:=by
 have h:(gcan kf e).map (·.1)=(e.map (·.1)).map kf:=by simp [gcan]
 rw [h];show List.Pairwise _ _↔List.Pairwise _ _;rw [List.pairwise_map];exact ⟨fun h=>h.imp fun hne e=>hne (by rw [e]),fun h=>h.imp fun hne e=>hne (hinj _ _ e)⟩
variable [DecidableEq K]
theorem qnb (T:KeyT P kt kh kf wf) (w:World) {k:K} (hk:wf k=true) {ents:Array MapEntry} {e:List (K × HV)} (he:ents.toList.map (·.key)=(gcan kf e).map (·.1)) (hv:RepL w μ ((gcan kf e).map (·.2)) (ents.toList.map (·.val))) (hn:((gcan kf e).map (·.1)).Nodup) (hw:∀ x∈e,wf x.1=true) :
  ((Instr.findKey kt (kf k) ents.toList).run P w=.ok none w∧qdJ k e=none) ∨
  ∃ j x h,(Instr.findKey kt (kf k) ents.toList).run P w=.ok (some (j,x.val)) w∧ents.toList[j]?=some x∧x.key=kf k∧e[j]?=some (k,h)∧qdJ k e=some h∧Rep w μ h x.val∧∀ v,gput k v e=e.modify j fun y=>(y.1,v):=by
 obtain ⟨l,hl⟩:=(T.kv k hk).lit
 have hkeys:∀ x∈ents.toList,∃ l,keyOf P kt x.key=some l:=fun x hx=>by
  obtain ⟨j,hj⟩:=List.mem_iff_getElem?.1 hx;obtain ⟨p,hp,hpk⟩:=qgz he hj;rw [hpk];exact (T.kv _ (hw p (List.mem_of_getElem? hp))).lit
 rcases T.law.find w hl ents.toList hkeys with ⟨h1,h2⟩ | ⟨j,x,h1,h2,h3⟩
 ·refine .inl ⟨h1,qhV.2 fun p hp hpk=>?_⟩
  obtain ⟨j,hj⟩:=List.mem_iff_getElem?.1 hp
  have h4:((gcan kf e).map (·.1))[j]?=some (kf k):=by simp [gcan,hj,hpk]
  rw [← he,List.getElem?_map] at h4
  cases hx:ents.toList[j]? with
  | none=>rw [hx] at h4; cases h4
  | some x =>
   rw [hx] at h4;exact h2 x (List.mem_of_getElem? hx) (Option.some.inj h4)
 obtain ⟨p,hp,hpk⟩:=qgz he h2;have hpk:p.1=k:=T.inj _ _ (hpk.symm.trans h3);obtain ⟨q,h⟩:=p;simp only at hpk;subst hpk
 have hval:(ents.toList.map (·.val))[j]?=some x.val:=by rw [List.getElem?_map,h2]; rfl
 obtain ⟨c,hc,hcr⟩:=zaC hv hval
 have hc':c=h:=by
  rw [qoZ,List.getElem?_map,hp] at hc;exact (Option.some.inj hc).symm
 subst hc';obtain ⟨g1,g2⟩:=qiR ((qj5 T.inj).1 hn) hp;exact .inr ⟨j,x,c,h1,h2,h3,hp,g1,hcr,g2⟩
theorem zaA {o:Oper} {Q:AS→Prop} {t et:TypeId} {m x:Operand} {id ver:Nat} {k:K} {e:List (K × HV)} {pe:Option (Nat × Value)} {Ty Te:TyI} {z:HV} (T:KeyT P kt kh kf wf) (hop:o.op=.lookup t m x false) (hN:okd N o.dst=true)
  (hT:ty P t=some Ty) (hTd:Ty.desc=.map kt et) (hTe:ty P et=some Te) (hz:qbQ Te.zero=some z)
  (hm:s.ev m=some (.mp id ver)) (hx:s.ev x=some (kh k)) (hk:wf k=true) (hg:hget s.heap id=some (ver,.gmap (gcan kf e) pe)) (hw:∀ x∈e,wf x.1=true)
  (h:Q (s.put o.dst ((qdJ k e).getD z))):AOp P ro N o Q s:=by
 refine AOp.value (fun c e=>by rw [hop] at e; cases e) hN fun B μ a w hs=>?_;obtain ⟨b,hl,he,ents,clock,hb,hkeys,hvals,hborn,hlt,hnd,hpe⟩:=hs.liveMap (hs.ev hm) hg;have hxe:a.eval x=kf k:=(T.kv k hk).rep w μ _ (hs.ev hx)
 have htd:P.underlying t=some (.map kt et):=by rw [← hTd]; exact (qby hT).1
 obtain ⟨l,hkl⟩:=(T.kv k hk).lit;have hchk:=T.law.check w ents.isEmpty hkl
 rcases qnb T w hk hkeys hvals hnd hw with ⟨h3,h4⟩ | ⟨j,y,hv,h3,h4,h5,h6,h7,h8,h9⟩
 ·refine ⟨Te.zero,z,μ,w,s.heap,?_,hs.sr,Evo.refl w μ,qcZ hz,by rw [h4] at h; exact h⟩
  simp [execOp,hop,hxe,he,Instr.lookup,run_underlying htd,MapKept.run_getObj_map hb,hchk,h3,qej hTe,Result.andThen]
 refine ⟨y.val,hv,μ,w,s.heap,?_,hs.sr,Evo.refl w μ,h8,by rw [h7] at h; exact h⟩;simp [execOp,hop,hxe,he,Instr.lookup,run_underlying htd,MapKept.run_getObj_map hb,hchk,h3,Result.andThen]
theorem zaF {o:Oper} {Q:AS→Prop} {t et:TypeId} {m x:Operand} {id ver:Nat} {k:K} {e:List (K × HV)} {pe:Option (Nat × Value)} {Ty Te:TyI} {z:HV} (T:KeyT P kt kh kf wf) (hop:o.op=.lookup t m x true) (hN:okd N o.dst=true)
  (hT:ty P t=some Ty) (hTd:Ty.desc=.map kt et) (hTe:ty P et=some Te) (hz:qbQ Te.zero=some z)
  (hm:s.ev m=some (.mp id ver)) (hx:s.ev x=some (kh k)) (hk:wf k=true) (hg:hget s.heap id=some (ver,.gmap (gcan kf e) pe)) (hw:∀ x∈e,wf x.1=true)
  (h:Q (s.put o.dst (.tup [(qdJ k e).getD z,.bool (qdJ k e).isSome]))):AOp P ro N o Q s:=by
 refine AOp.value (fun c e=>by rw [hop] at e; cases e) hN fun B μ a w hs=>?_;obtain ⟨b,hl,he,ents,clock,hb,hkeys,hvals,hborn,hlt,hnd,hpe⟩:=hs.liveMap (hs.ev hm) hg;have hxe:a.eval x=kf k:=(T.kv k hk).rep w μ _ (hs.ev hx)
 have htd:P.underlying t=some (.map kt et):=by rw [← hTd]; exact (qby hT).1
 obtain ⟨l,hkl⟩:=(T.kv k hk).lit;have hchk:=T.law.check w ents.isEmpty hkl
 rcases qnb T w hk hkeys hvals hnd hw with ⟨h3,h4⟩ | ⟨j,y,hv,h3,h4,h5,h6,h7,h8,h9⟩
 ·refine ⟨.tuple #[Te.zero,.bool false],.tup [z,.bool false],μ,w,s.heap,?_,hs.sr,Evo.refl w μ,⟨[Te.zero,.bool false],rfl,_,_,rfl,qcZ hz,_,_,rfl,rfl,rfl⟩,by rw [h4] at h; exact h⟩
  simp [execOp,hop,hxe,he,Instr.lookup,run_underlying htd,MapKept.run_getObj_map hb,hchk,h3,qej hTe,Result.andThen]
 refine ⟨.tuple #[y.val,.bool true],.tup [hv,.bool true],μ,w,s.heap,?_,hs.sr,Evo.refl w μ,⟨[y.val,.bool true],rfl,_,_,rfl,h8,_,_,rfl,rfl,rfl⟩,by rw [h7] at h; exact h⟩;simp [execOp,hop,hxe,he,Instr.lookup,run_underlying htd,MapKept.run_getObj_map hb,hchk,h3,Result.andThen]
theorem zaU {B:Nat} {a:Act} (hs:SRel ro N B μ s a w) {id ver b clock clock':Nat} {o o':AObj} {ents ents':Array MapEntry} (hg:hget s.heap id=some (ver,o)) (hb:w.heap[b]?=some (.map ents clock)) (hl:μ.loc id=some (ver,some b)) (hni:noIt id s.heap)
  (ho:∀ w',Evo w μ w' μ→w'.heap[b]?=some (.map ents' clock')→OR w' μ o' (some b)):SR { w with heap:=w.heap.set! b (.map ents' clock') } μ (hset s.heap id ver o')∧Evo w μ { w with heap:=w.heap.set! b (.map ents' clock') } μ:=by
 have hlb:b<w.heap.size:=(Array.getElem?_eq_some_iff.1 hb).1
 exact hs.sr.upd (w':={ w with heap:=w.heap.set! b (.map ents' clock') }) (o':=o') hg
   (fun cur e hr=>by
    obtain ⟨lo,hi,hc,_⟩:=hr;rw [hb] at hc
    cases hc) hl ⟨rfl,rfl,rfl⟩ (by simp)
   (fun b' hb'=>by simp [Array.getElem?_setIfInBounds_ne (fun e=>hb' e.symm)])
   (fun E=>ho _ E (by simp [hlb]))
   (fun _ j v mver seen cur l hj=>absurd hj (hni j v mver seen cur))
theorem OR.gpush (hok:μ.ok) {w0:World} (E:Evo w0 μ w μ) {b clock:Nat} {k:K} {hv:HV} {v:Value} {ents:Array MapEntry} {e:List (K × HV)} {pe:Option (Nat × Value)} (hinj:∀ a b,kf a=kf b→a=b) (h1:qdJ k e=none) (hkeys:ents.toList.map (·.key)=(gcan kf e).map (·.1)) (hvals:RepL w0 μ ((gcan kf e).map (·.2)) (ents.toList.map (·.val)))
  (hborn:(ents.toList.map (·.born)).Nodup) (hlt:∀ x∈ents.toList,x.born<clock) (hnd:((gcan kf e).map (·.1)).Nodup) (hr:Rep w0 μ hv v) (hb:w.heap[b]?=some (.map (ents.push { key:=kf k,val:=v,born:=clock }) (clock+1)))
  (hp:∀ p,pe=some p→p=(clock,kf k)):OR w μ (.gmap (gcan kf (gput k hv e)) pe) (some b):=by
 rw [qm4 h1];refine ⟨_,_,hb,by simp [hkeys,gcan],?_,?_,?_,?_,fun p hpp=>?_⟩
 ·simp only [gcan,List.map_append,Array.toList_push,List.map_cons,List.map_nil]
  exact qf9 (RepL.evo E hok _ _ hvals) (Rep.evo E hok _ _ hr)
 ·simp only [List.map_append,Array.toList_push,List.map_cons,List.map_nil]
  rw [List.nodup_append];refine ⟨hborn,by simp,fun x hx y hy=>?_⟩;simp only [List.mem_singleton] at hy;obtain ⟨z,hz,rfl⟩:=List.mem_map.1 hx;have:=hlt z hz;omega
 ·intro z hz
  simp only [Array.toList_push,List.mem_append,List.mem_singleton] at hz
  rcases hz with hz | rfl
  ·have:=hlt z hz; omega
  simp
 ·rw [qj5 hinj] at hnd ⊢
  simp only [List.map_append,List.map_cons,List.map_nil];rw [List.nodup_append]
  exact ⟨hnd,by simp,fun x hx y hy e2=>by
   simp only [List.mem_singleton] at hy;obtain ⟨z,hz,rfl⟩:=List.mem_map.1 hx
   exact qhV.1 h1 z hz (e2.trans hy)⟩
 rw [hp p hpp];exact ⟨{ key:=kf k,val:=v,born:=clock },by simp,rfl,rfl⟩
theorem OR.gset (hok:μ.ok) {w0:World} (E:Evo w0 μ w μ) {b clock j:Nat} {k:K} {hv h0:HV} {v:Value} {ents:Array MapEntry} {x:MapEntry} {e:List (K × HV)} {pe:Option (Nat × Value)} {f:MapEntry→MapEntry} (hinj:∀ a b,kf a=kf b→a=b) (hx:ents.toList[j]?=some x) (hxk:x.key=kf k) (hj:e[j]?=some (k,h0)) (hput:∀ v,gput k v e=e.modify j fun y=>(y.1,v))
  (hf:∀ y,ents.toList[j]?=some y→(f y).key=y.key) (hfv:∀ y,(f y).val=v) (hfb:∀ y,(f y).born=y.born)
  (hkeys:ents.toList.map (·.key)=(gcan kf e).map (·.1)) (hvals:RepL w0 μ ((gcan kf e).map (·.2)) (ents.toList.map (·.val)))
  (hborn:(ents.toList.map (·.born)).Nodup) (hlt:∀ x∈ents.toList,x.born<clock) (hnd:((gcan kf e).map (·.1)).Nodup) (hr:Rep w0 μ hv v) (hb:w.heap[b]?=some (.map (ents.modify j f) clock))
  (hp:∀ p,pe=some p→p=(x.born,kf k)):OR w μ (.gmap (gcan kf (gput k hv e)) pe) (some b):=by
 have hes:(gput k hv e).map (fun x=>kf x.1)=e.map (fun x=>kf x.1):=by
  rw [hput]; exact qbk (fun x=>kf x.1) (fun x=>(x.1,hv)) e j (fun x _=>rfl)
 have hes2:(gput k hv e).map (fun x=>x.1)=e.map (fun x=>x.1):=by
  rw [hput]; exact qbk (fun x=>x.1) (fun x=>(x.1,hv)) e j (fun x _=>rfl)
 have hborn':(ents.modify j f).toList.map (·.born)=ents.toList.map (·.born):=by
  rw [Array.toList_modify]; exact qbk (fun x:MapEntry=>x.born) f ents.toList j (fun x _=>hfb x)
 refine ⟨_,_,hb,?_,?_,?_,?_,?_,fun p hpp=>?_⟩
 ·have:(gcan kf (gput k hv e)).map (·.1)=(gcan kf e).map (·.1):=by
   unfold gcan;rw [List.map_map,List.map_map];exact hes
  rw [this,Array.toList_modify,← hkeys];exact qbk (fun x:MapEntry=>x.key) f ents.toList j hf
 ·rw [qoZ,hput,Array.toList_modify,qdl (fun x:K × HV=>x.2) (fun x=>(x.1,hv)) hv (fun _=>rfl),qdl (fun x:MapEntry=>x.val) f v hfv]
  rw [qoZ] at hvals;exact RepL.set (RepL.evo E hok _ _ hvals) (Rep.evo E hok _ _ hr) j
 ·rw [hborn']; exact hborn
 ·intro z hz
  have:z.born∈(ents.modify j f).toList.map (·.born):=List.mem_map.2 ⟨z,hz,rfl⟩;rw [hborn'] at this;obtain ⟨z',hz',e'⟩:=List.mem_map.1 this;rw [← e'];exact hlt z' hz'
 ·rw [qj5 hinj] at hnd ⊢
  rw [hes2]; exact hnd
 rw [hp p hpp];refine ⟨f x,?_,hfb x,(hf x hx).trans hxk⟩;rw [Array.toList_modify];exact List.mem_iff_getElem?.2 ⟨j,by simp [List.getElem?_modify,hx]⟩
theorem zaO {o:Oper} {Q:AS→Prop} {t et:TypeId} {m x y:Operand} {id ver:Nat} {k:K} {e:List (K × HV)} {pe:Option (Nat × Value)} {Ty:TyI} {hv:HV} (T:KeyT P kt kh kf wf) (hop:o.op=.mapUpdate t m x y∨o.op=.insert t m x y) (hN:okd N o.dst=true)
  (hT:ty P t=some Ty) (hTd:Ty.desc=.map kt et)
  (hm:s.ev m=some (.mp id ver)) (hx:s.ev x=some (kh k)) (hk:wf k=true) (hy:s.ev y=some hv) (hg:hget s.heap id=some (ver,.gmap (gcan kf e) pe)) (hw:∀ x∈e,wf x.1=true) (hni:noIt id s.heap)
  (h:Q (({ s with heap:=hset s.heap id ver (.gmap (gcan kf (gput k hv e)) none) }:AS).put o.dst (.v undef))):AOp P ro N o Q s:=by
 refine AOp.skip (fun c e=>by rcases hop with hop | hop <;> (rw [hop] at e; cases e)) hN fun B μ a w hs=>?_;obtain ⟨b,hl,he,ents,clock,hb,hkeys,hvals,hborn,hlt,hnd,hpe⟩:=hs.liveMap (hs.ev hm) hg;have hxe:a.eval x=kf k:=(T.kv k hk).rep w μ _ (hs.ev hx);have hyr:=hs.ev hy
 have htd:P.underlying t=some (.map kt et):=by rw [← hTd]; exact (qby hT).1
 obtain ⟨l,hkl⟩:=(T.kv k hk).lit;have hchk:=T.law.check w false hkl
 have done:∀ (ents':Array MapEntry) (clock':Nat),(Instr.mapUpdate t (.map (some b)) (kf k) (a.eval y)).run P w=.ok () { w with heap:=w.heap.set! b (.map ents' clock') } →
   (∀ w',Evo w μ w' μ→w'.heap[b]?=some (.map ents' clock')→OR w' μ (.gmap (gcan kf (gput k hv e)) none) (some b)) →
   ∃ μ' w' H',(execOp a.eval o).run P w=.ok .skip w'∧SR w' μ' H'∧Evo w μ w' μ'∧Q (({ s with heap:=H' }:AS).put o.dst (.v undef)):=by
  intro ents' clock' hrun hor;obtain ⟨h1,h2⟩:=zaU hs hg hb hl hni hor;refine ⟨μ,_,_,?_,h1,h2,h⟩
  rcases hop with hop | hop <;> (simp only [execOp,hop,hxe,he,Sem.run_bind,hrun,Result.andThen_ok]; rfl)
 rcases qnb T w hk hkeys hvals hnd hw with ⟨h3,h4⟩ | ⟨j,z,h0,h3,h4,h5,h6,h7,h8,h9⟩
 ·refine done (ents.push { key:=kf k,val:=a.eval y,born:=clock }) (clock+1) ?_ fun w' E hb'=>OR.gpush hs.sr.ok E T.inj h4 hkeys hvals hborn hlt hnd hyr hb' (fun p hp=>by cases hp)
  simp [Instr.mapUpdate,run_underlying htd,MapKept.run_getObj_map hb,hchk,h3,run_setObj_map _ hb,Result.andThen]
 refine done (ents.modify j fun e=>{ e with key:=kf k,val:=a.eval y }) clock ?_ fun w' E hb'=>OR.gset (f:=fun e=>{ e with key:=kf k,val:=a.eval y }) hs.sr.ok E T.inj h4 h5 h6 h9 (fun q hq=>by rw [h4] at hq; cases hq; exact h5.symm) (fun _=>rfl) (fun _=>rfl) hkeys hvals hborn hlt hnd hyr hb' (fun p hp=>by cases hp)
 have hj:ents[j]?=some z:=by simpa using h4
 simp [Instr.mapUpdate,run_underlying htd,MapKept.run_getObj_map hb,hchk,h3,hj,h5,T.law.stays w hkl,run_setObj_map _ hb,Result.andThen]
def qls (k:K) (z:HV) (e:List (K × HV)):List (K × HV):=if (qdJ k e).isSome then e else gput k z e
theorem zaE {o:Oper} {Q:AS→Prop} {t et:TypeId} {m x:Operand} {id ver:Nat} {k:K} {e:List (K × HV)} {pe:Option (Nat × Value)} {Ty Te:TyI} {z:HV} (T:KeyT P kt kh kf wf) (hop:o.op=.mapEntry t m x) (hN:okd N o.dst=true)
  (hT:ty P t=some Ty) (hTd:Ty.desc=.map kt et) (hTe:ty P et=some Te) (hz:qbQ Te.zero=some z)
  (hm:s.ev m=some (.mp id ver)) (hx:s.ev x=some (kh k)) (hk:wf k=true) (hg:hget s.heap id=some (ver,.gmap (gcan kf e) pe)) (hw:∀ x∈e,wf x.1=true) (hni:noIt id s.heap)
  (h:∀ n:Nat,Q (({ s with heap:=hset s.heap id ver (.gmap (gcan kf (qls k z e)) (some (n,kf k))) }:AS).put o.dst (.tup [(qdJ k e).getD z,.v (goInt n)]))):AOp P ro N o Q s:=by
 refine AOp.value (fun c e=>by rw [hop] at e; cases e) hN fun B μ a w hs=>?_;obtain ⟨b,hl,he,ents,clock,hb,hkeys,hvals,hborn,hlt,hnd,hpe⟩:=hs.liveMap (hs.ev hm) hg;have hxe:a.eval x=kf k:=(T.kv k hk).rep w μ _ (hs.ev hx)
 have htd:P.underlying t=some (.map kt et):=by rw [← hTd]; exact (qby hT).1
 obtain ⟨l,hkl⟩:=(T.kv k hk).lit;have hchk:=T.law.check w false hkl
 rcases qnb T w hk hkeys hvals hnd hw with ⟨h3,h4⟩ | ⟨j,y,hv,h3,h4,h5,h6,h7,h8,h9⟩
 ·obtain ⟨h1,h2⟩:=zaU (ents':=ents.push { key:=kf k,val:=Te.zero,born:=clock }) (clock':=clock+1) (o':=.gmap (gcan kf (gput k z e)) (some (clock,kf k))) hs hg hb hl hni
   fun w' E hb'=>OR.gpush hs.sr.ok E T.inj h4 hkeys hvals hborn hlt hnd (qcZ hz) hb' (fun p hp=>by cases hp; rfl)
  have hK:=h clock;unfold qls at hK;rw [h4] at hK;refine ⟨.tuple #[Te.zero,goInt clock],.tup [z,.v (goInt clock)],μ,_,_,?_,h1,h2,⟨[Te.zero,goInt clock],rfl,_,_,rfl,qcZ hz,_,_,rfl,rfl,rfl⟩,hK⟩;simp [execOp,hop,hxe,he,Instr.mapEntry,run_underlying htd,MapKept.run_getObj_map hb,hchk,h3,qej hTe,run_setObj_map _ hb,Result.andThen]
 have hj:ents[j]?=some y:=by simpa using h4
 have hsame:(ents.modify j fun e=>{ e with key:=kf k })=ents:=by
  apply Array.ext';rw [Array.toList_modify];have:=qbk (fun x:MapEntry=>x) (fun e:MapEntry=>{ e with key:=kf k }) ents.toList j (fun x hx=>by rw [h4] at hx; cases hx; rw [← h5])
  simpa using this
 obtain ⟨h1,h2⟩:=zaU (ents':=ents) (clock':=clock) (o':=.gmap (gcan kf e) (some (y.born,kf k))) hs hg hb hl hni
  fun w' E hb'=>⟨ents,clock,hb',hkeys,RepL.evo E hs.sr.ok _ _ hvals,hborn,hlt,hnd,fun p hp=>by cases hp; exact ⟨y,List.mem_of_getElem? h4,rfl,h5⟩⟩
 have hK:=h y.born;unfold qls at hK;rw [h7] at hK;refine ⟨.tuple #[y.val,goInt y.born],.tup [hv,.v (goInt y.born)],μ,_,_,?_,h1,h2,⟨[y.val,goInt y.born],rfl,_,_,rfl,Rep.evo h2 hs.sr.ok _ _ h8,_,_,rfl,rfl,rfl⟩,hK⟩;simp [execOp,hop,hxe,he,Instr.mapEntry,run_underlying htd,MapKept.run_getObj_map hb,hchk,h3,hj,h5,T.law.stays w hkl,hsame,run_setObj_map _ hb,Result.andThen]
theorem zax {o:Oper} {Q:AS→Prop} {t:TypeId} {m x y:Operand} {id ver n:Nat} {k:K} {e:List (K × HV)} {hv:HV} (hinj:∀ a b,kf a=kf b→a=b) (hop:o.op=.entryStore t m x y) (hN:okd N o.dst=true)
  (hm:s.ev m=some (.mp id ver)) (hx:s.ev x=some (.v (goInt n))) (hy:s.ev y=some hv) (hg:hget s.heap id=some (ver,.gmap (gcan kf e) (some (n,kf k)))) (hni:noIt id s.heap)
  (h:Q (({ s with heap:=hset s.heap id ver (.gmap (gcan kf (gput k hv e)) none) }:AS).put o.dst (.v undef))):AOp P ro N o Q s:=by
 refine AOp.skip (fun c e=>by rw [hop] at e; cases e) hN fun B μ a w hs=>?_;obtain ⟨b,hl,he,ents,clock,hb,hkeys,hvals,hborn,hlt,hnd,hpe⟩:=hs.liveMap (hs.ev hm) hg;have hxe:a.eval x=goInt n:=hs.ev hx;have hyr:=hs.ev hy;obtain ⟨z,hz,hz1,hz2⟩:=hpe _ rfl;obtain ⟨j,hj⟩:=List.mem_iff_getElem?.1 hz;obtain ⟨p,hp,hpk⟩:=qgz hkeys hj;have hpk:p.1=k:=hinj _ _ (hpk.symm.trans hz2);obtain ⟨q,h0⟩:=p;simp only at hpk;subst hpk;obtain ⟨g1,g2⟩:=qiR ((qj5 hinj).1 hnd) hp
 obtain ⟨h1,h2⟩:=zaU (ents':=ents.modify j fun e=>{ e with val:=a.eval y }) (clock':=clock) (o':=.gmap (gcan kf (gput q hv e)) none) hs hg hb hl hni
  fun w' E hb'=>OR.gset (f:=fun e=>{ e with val:=a.eval y }) hs.sr.ok E hinj hj hz2 hp g2 (fun _ _=>rfl) (fun _=>rfl) (fun _=>rfl) hkeys hvals hborn hlt hnd hyr hb' (fun p hp=>by cases hp)
 refine ⟨μ,_,_,?_,h1,h2,h⟩
 have hidx:ents.findIdx? (fun e=>((e.born:Nat):Int) == ((n:Nat):Int))=some j:=by
  have hz1:z.born=n:=hz1;rw [WideElems.findIdx_arr,← hz1];exact WideElems.findIdx_born hborn hj
 simp [execOp,hop,hxe,he,Instr.entryStore,MapKept.run_getObj_map hb,asInt,asIntOf,goInt,hidx,run_setObj_map _ hb,Result.andThen]
theorem SR.allocIterG (h:SR w μ H) (id:Nat) {mid mver mb:Nat} (hl:μ.loc mid=some (mver,some mb)) (hid:id≠mid) {ents:Array MapEntry} {clock:Nat}
  (hb:w.heap[mb]?=some (.map ents clock)) :
  SR (w.alloc (.mapIter (some mb) clock #[] clock)) (μ.set id (some w.heap.size)) (hset H id μ.nx (.iter mid mver [] false))∧Evo w μ (w.alloc (.mapIter (some mb) clock #[] clock)) (μ.set id (some w.heap.size)):=by
 have g:=Grow.alloc w (.mapIter (some mb) clock #[] clock);have hE:=Evo.repl h id (some w.heap.size) g.toSame g.size (fun b hb _=>g.old b hb) (fun b hb=>by cases hb; exact .inl (Nat.le_refl _));refine ⟨h.repl id (some w.heap.size) _ g.toSame g.size (fun b hb _=>g.old b hb) (fun b hb=>by cases hb; exact .inl (Nat.le_refl _)) ?_,hE⟩;have hmb:=h.blk hl;refine ⟨by have:=h.ok mid mver _ hl; simp [Mu.set]; omega,mb,clock,#[],clock,?_,fun l hl'=>?_⟩
 ·show (w.heap.push _)[w.heap.size]?=_
  simp
 simp only [Mu.set,if_neg (Ne.symm hid),hl] at hl';cases hl';refine ⟨rfl,ents,clock,(g.old mb hmb).trans hb,rfl,rfl,fun x _=>by simp,fun h=>by cases h⟩
theorem AOp.rangeG {o:Oper} {Q:AS→Prop} {t et:TypeId} {m:Operand} {mid mver:Nat} {es:List (Value × HV)} {pe:Option (Nat × Value)} {Ty:TyI} (id:Nat) (hop:o.op=.range t m) (hN:okd N o.dst=true)
  (hT:ty P t=some Ty) (hTd:Ty.desc=.map kt et) (hm:s.ev m=some (.mp mid mver)) (hg:hget s.heap mid=some (mver,.gmap es pe)) (hid:id≠mid)
  (h:∀ ver,Q (({ s with heap:=hset s.heap id ver (.iter mid mver [] false) }:AS).put o.dst (.it id ver))):AOp P ro N o Q s:=by
 refine AOp.value (fun c e=>by rw [hop] at e; cases e) hN fun B μ a w hs=>?_;obtain ⟨b,hl,he,ents,clock,hb,_⟩:=hs.liveMap (hs.ev hm) hg
 have htd:P.underlying t=some (.map kt et):=by rw [← hTd]; exact (qby hT).1
 obtain ⟨hsr,hE⟩:=hs.sr.allocIterG id hl hid hb;refine ⟨.pointer (some ⟨w.heap.size,0,none⟩),.it id μ.nx,_,_,_,?_,hsr,hE,.inl ⟨w.heap.size,by simp [Mu.set],rfl⟩,h μ.nx⟩;simp [execOp,hop,he,Instr.range,run_underlying htd,MapKept.run_getObj_map hb,World.alloc_eq,Result.andThen]
end
section
variable {P:Program} {ro:Option Nat} {N:Nat} {s:AS} {w w':World} {μ:Mu} {H:Heap}
variable {K:Type} {kt:TypeId} {kh:K→HV} {kf:K→Value} {wf:K→Bool}
theorem AOp.nextG {o:Oper} {Q:AS→Prop} {x:Operand} {id ver mid mver:Nat} {seen:List (List UInt8)} {cur:Bool} {e0:List (K × HV)} {pe:Option (Nat × Value)} (kc:∀ w μ k,wf k=true→Rep w μ (kh k) (kf k)) (hci:∀ a b,qcM (kf a)=qcM (kf b)→a=b) (hinj:∀ a b,kf a=kf b→a=b) (hop:o.op=.next x false) (hN:okd N o.dst=true)
  (hx:s.ev x=some (.it id ver)) (hg:hget s.heap id=some (ver,.iter mid mver seen cur)) (hgm:hget s.heap mid=some (mver,.gmap (gcan kf e0) pe)) (hw:∀ x∈e0,wf x.1=true)
  (h1:(∀ p∈e0,qcM (kf p.1)∈seen)→Q (s.put o.dst (.tup [.bool false])))
  (h2:∀ k v,(k,v)∈e0→qcM (kf k) ∉ seen→Q (({ s with heap:=hset s.heap id ver (.iter mid mver (qcM (kf k)::seen) true) }:AS).put o.dst (.tup [.bool true,kh k,v]))):AOp P ro N o Q s:=by
 refine AOp.value (fun c e=>by rw [hop] at e; cases e) hN fun B μ a w hs=>?_;obtain ⟨r,hl,he,h0,mb,since,sn,last,hr,hall⟩:=hs.liveIt (hs.ev hx) hg;obtain ⟨lm,hlm,hmor⟩:=hs.sr.has mid mver _ hgm;obtain ⟨rfl,ents,clock,hb,rfl,rfl,hseen,hcur⟩:=hall lm hlm;obtain ⟨ents',clock',hb',hkeys,hvals,hborn,hlt,hnd,hpe⟩:=hmor;have hnd0:(e0.map (·.1)).Nodup:=(qj5 hinj).1 hnd;rw [hb] at hb';cases hb'
 have hleft:∀ e,e∈(leftOf ents sn).toList↔e∈ents.toList∧e.born ∉ sn.toList:=fun e=>by
  simp [leftOf]
 rcases Go.run_next_at (P:=P) w o.type r mb _ _ sn ents _ hr hb hlt (Nat.le_refl _) with ⟨h3,h4⟩ | ⟨e,h3,w1,h4,h5⟩
 ·refine ⟨_,.tup [.bool false],μ,w,s.heap,?_,hs.sr,Evo.refl w μ,⟨[.bool false],rfl,_,_,rfl,rfl,rfl⟩,h1 fun p hp=>?_⟩
  ·simp only [execOp,hop,he,Sem.run_bind,h4,Result.andThen_ok]
   rfl
  obtain ⟨j,hj⟩:=List.mem_iff_getElem?.1 hp
  have hkj:((gcan kf e0).map (·.1))[j]?=some (kf p.1):=by simp [gcan,hj]
  rw [← hkeys,List.getElem?_map] at hkj
  cases hej:ents.toList[j]? with
  | none=>rw [hej] at hkj; cases hkj
  | some e =>
   rw [hej] at hkj;have hke:e.key=kf p.1:=Option.some.inj hkj;have hem:e∈ents.toList:=List.mem_of_getElem? hej
   have hnot:¬ (e∈(leftOf ents sn).toList):=fun hh=>by
    have:=Array.eq_empty_of_size_eq_zero h3;rw [this] at hh;cases hh
   have hin:e.born∈sn.toList:=Classical.byContradiction fun hn=>hnot ((hleft e).2 ⟨hem,hn⟩);obtain ⟨k,hk,hkk⟩:=(hseen e hem).1 hin;rw [hke] at hkk;rw [hkk];exact hk
 obtain ⟨hem,hns⟩:=(hleft e).1 h3;obtain ⟨j,hej⟩:=List.mem_iff_getElem?.1 hem;obtain ⟨p,hpj,hke⟩:=qgz hkeys hej
 have hval:(ents.toList.map (·.val))[j]?=some e.val:=by rw [List.getElem?_map,hej]; rfl
 obtain ⟨c,hc,hcr⟩:=zaC hvals hval
 have hc':c=p.2:=by
  rw [qoZ,List.getElem?_map,hpj] at hc;exact (Option.some.inj hc).symm
 subst hc';have hpm:p∈e0:=List.mem_of_getElem? hpj
 have hw1:Same w w1∧w1.heap=w.heap:=by
  rcases h4 with rfl | rfl
  ·exact ⟨Same.refl _,rfl⟩
  exact ⟨⟨rfl,rfl,rfl⟩,rfl⟩
 have hrl:r<w.heap.size:=(Array.getElem?_eq_some_iff.1 hr).1
 have hmr:mb≠r:=fun e'=>by subst e'; rw [hr] at hb; cases hb
 have hke1:qcM e.key=qcM (kf p.1):=by rw [hke]
 have hknot:qcM (kf p.1) ∉ seen:=fun hh=>hns ((hseen e hem).2 ⟨_,hh,hke1⟩)
 have hbeq:∀ x∈ents.toList,x.born=e.born→x=e:=fun x hx hxe=>by
  obtain ⟨i,hi⟩:=List.mem_iff_getElem?.1 hx
  have h6:(ents.toList.map (·.born))[i]?=some e.born:=by rw [List.getElem?_map,hi]; simp [hxe]
  have h7:(ents.toList.map (·.born))[j]?=some e.born:=by rw [List.getElem?_map,hej]; rfl
  have hil:i<(ents.toList.map (·.born)).length:=(List.getElem?_eq_some_iff.1 h6).1;have:=(List.getElem?_inj hil hborn).1 (h6.trans h7.symm);subst this;rw [hej] at hi;exact (Option.some.inj hi).symm
 obtain ⟨h6,h7⟩:=hs.sr.updIter (w':=ChangeMaps.setBlock w1 r (.mapIter (some mb) last (sn.push e.born) last)) (seen':=qcM (kf p.1)::seen) (cur':=true) hg hl
  ⟨hw1.1.os,hw1.1.tape,hw1.1.output⟩ (by simp [ChangeMaps.setBlock,hw1.2]) (fun b' hb'=>by
   simp only [ChangeMaps.setBlock,hw1.2]
   rw [Array.getElem?_setIfInBounds_ne (fun e=>hb' e.symm)])
  (fun E=>by
   refine ⟨h0,mb,last,sn.push e.born,last,?_,fun l' hl'=>?_⟩
   ·simp [ChangeMaps.setBlock,hw1.2,hrl]
   rw [hlm] at hl';cases hl';refine ⟨rfl,ents,last,?_,rfl,rfl,fun x hx=>?_,fun _=>⟨_,rfl,e,hem,hke1,by simp⟩⟩
   ·simp only [ChangeMaps.setBlock,hw1.2]
    rw [Array.getElem?_setIfInBounds_ne (fun e=>hmr e.symm)];exact hb
   simp only [Array.toList_push,List.mem_append,List.mem_cons,List.not_mem_nil,or_false];constructor
   ·rintro (hx' | hx')
    ·obtain ⟨k,hk,hkk⟩:=(hseen x hx).1 hx'
     exact ⟨k,.inr hk,hkk⟩
    rw [hbeq x hx hx'];exact ⟨_,.inl rfl,hke1⟩
   rintro ⟨k,rfl | hk,hkk⟩
   ·right
    obtain ⟨i,hi⟩:=List.mem_iff_getElem?.1 hx;obtain ⟨q,hq,hqk⟩:=qgz hkeys hi
    have e1:q.1=p.1:=by rw [hqk] at hkk; exact hci _ _ hkk
    have h8:(e0.map (·.1))[i]?=some p.1:=by rw [List.getElem?_map,hq]; simp [e1]
    have h9:(e0.map (·.1))[j]?=some p.1:=by rw [List.getElem?_map,hpj]; rfl
    have:=(List.getElem?_inj (List.getElem?_eq_some_iff.1 h8).1 hnd0).1 (h8.trans h9.symm);subst this;rw [hej] at hi;rw [Option.some.inj hi]
   exact .inl ((hseen x hx).2 ⟨k,hk,hkk⟩))
 refine ⟨.tuple #[.bool true,e.key,e.val],.tup [.bool true,kh p.1,p.2],μ,_,_,?_,h6,h7,?_,h2 p.1 p.2 hpm hknot⟩
 ·simp only [execOp,hop,he,Sem.run_bind,h5,Result.andThen_ok]
  rfl
 refine ⟨[.bool true,e.key,e.val],rfl,_,_,rfl,rfl,_,_,rfl,hke.symm ▸ kc _ _ _ (hw p hpm),_,_,rfl,Rep.evo h7 hs.sr.ok _ _ hcr,rfl⟩
end
section
variable {P:Program} {ro:Option Nat} {N:Nat} {s:AS} {w w':World} {μ:Mu} {H:Heap}
variable {K:Type} {kt:TypeId} {kh:K→HV} {kf:K→Value} {wf:K→Bool}
variable [DecidableEq K]
theorem AOp.entryG {o:Oper} {Q:AS→Prop} {x:Operand} {id ver mid mver:Nat} {k:K} {seen:List (List UInt8)} {e0:List (K × HV)} {pe:Option (Nat × Value)} {v:HV} (kc:∀ w μ k,wf k=true→Rep w μ (kh k) (kf k)) (hci:∀ a b,qcM (kf a)=qcM (kf b)→a=b) (hinj:∀ a b,kf a=kf b→a=b) (hop:o.op=.entry x) (hN:okd N o.dst=true)
  (hx:s.ev x=some (.it id ver)) (hg:hget s.heap id=some (ver,.iter mid mver (qcM (kf k)::seen) true)) (hgm:hget s.heap mid=some (mver,.gmap (gcan kf e0) pe)) (hw:∀ x∈e0,wf x.1=true) (hk:qdJ k e0=some v)
  (h:Q (s.put o.dst (.tup [kh k,v]))):AOp P ro N o Q s:=by
 refine AOp.value (fun c e=>by rw [hop] at e; cases e) hN fun B μ a w hs=>?_;obtain ⟨r,hl,he,h0,mb,since,sn,last,hr,hall⟩:=hs.liveIt (hs.ev hx) hg;obtain ⟨lm,hlm,hmor⟩:=hs.sr.has mid mver _ hgm;obtain ⟨rfl,ents,clock,hb,rfl,rfl,hseen,hcur⟩:=hall lm hlm;obtain ⟨ents',clock',hb',hkeys,hvals,hborn,hlt,hnd,hpe⟩:=hmor;have hnd0:(e0.map (·.1)).Nodup:=(qj5 hinj).1 hnd;rw [hb] at hb';cases hb';obtain ⟨k',hk',e,hem,hke,hback⟩:=hcur rfl;cases hk';obtain ⟨j,hej⟩:=List.mem_iff_getElem?.1 hem;obtain ⟨p,hpj,hke'⟩:=qgz hkeys hej
 have hval:(ents.toList.map (·.val))[j]?=some e.val:=by rw [List.getElem?_map,hej]; rfl
 obtain ⟨c,hc,hcr⟩:=zaC hvals hval
 have hc':c=p.2:=by
  rw [qoZ,List.getElem?_map,hpj] at hc;exact (Option.some.inj hc).symm
 subst hc';have hpm:p∈e0:=List.mem_of_getElem? hpj
 have hpk:p.1=k:=by rw [hke'] at hke; exact hci _ _ hke
 have hv:v=p.2:=by
  have:=(qiR (k:=k) (h:=p.2) hnd0 (by rw [hpj,← hpk])).1;rw [hk] at this;exact Option.some.inj this
 subst hv
 have hbeq:∀ x∈ents.toList,x.born=e.born→x=e:=fun x hx hxe=>by
  obtain ⟨i,hi⟩:=List.mem_iff_getElem?.1 hx
  have h6:(ents.toList.map (·.born))[i]?=some e.born:=by rw [List.getElem?_map,hi]; simp [hxe]
  have h7:(ents.toList.map (·.born))[j]?=some e.born:=by rw [List.getElem?_map,hej]; rfl
  have hil:i<(ents.toList.map (·.born)).length:=(List.getElem?_eq_some_iff.1 h6).1;have:=(List.getElem?_inj hil hborn).1 (h6.trans h7.symm);subst this;rw [hej] at hi;exact (Option.some.inj hi).symm
 have hfind:ents.find? (fun x=>x.born == e.born)=some e:=by
  cases hf:ents.find? (fun x=>x.born == e.born) with
  | none =>
   have:=Array.find?_eq_none.1 hf e (by simpa using hem);simp at this
  | some y =>
   have h1:=Array.find?_some hf;have h2:=Array.mem_of_find?_eq_some hf;rw [hbeq y (by simpa using h2) (by simpa using h1)]
 refine ⟨.tuple #[e.key,e.val],.tup [kh k,p.2],μ,w,s.heap,?_,hs.sr,Evo.refl w μ,⟨[e.key,e.val],rfl,_,_,rfl,(by rw [hke',hpk]; exact kc _ _ _ (hpk ▸ hw p hpm)),_,_,rfl,hcr,rfl⟩,h⟩;simp [execOp,hop,he,Instr.entry,getObj,Sem.run,hr,hback,hb,hfind,Result.andThen]
end
section
variable {K:Type}
theorem qi1 (kf:K→Value) {G:AS→Prop} {sl:List (Nat × HV)} {H:Heap} {id ver:Nat} (hg:hget H id=some (ver,.map [])) (h:G ⟨sl,(id,ver,.gmap (gcan kf []) none)::H⟩):(⟨sl,H⟩:AS).to G:=by
 intro ro N B μ a w hs;refine ⟨μ,_,h,⟨hs.size,⟨hs.sr.ok,fun i v o hi=>?_,fun i x hx=>?_,hs.sr.inj,hs.sr.held⟩,hs.slot,hs.marks,hs.ro⟩,Evo.refl w μ⟩
 ·simp only [hget] at hi
  split at hi
  ·rename_i e
   subst e;cases hi;obtain ⟨l,hl,hor⟩:=hs.sr.has i ver _ hg;refine ⟨l,hl,?_⟩
   cases l with
   | none=>exact hor.elim
   | some b =>
    obtain ⟨ents,clock,h1,h2,h3,h4,h5,_⟩:=hor;exact ⟨ents,clock,h1,h2,h3,h4,h5,List.nodup_nil,fun p hp=>by cases hp⟩
  exact hs.sr.has i v o hi
 obtain ⟨y,hy⟩:=hs.sr.only i x hx;simp only [hget];split
 ·exact ⟨_,rfl⟩
 exact ⟨y,hy⟩
end
end
section
variable {P:Program} {ro:Option Nat} {N:Nat} {Q:Exit→AS→Prop} {s:AS}
def UW (P:Program) (ro:Option Nat) (N:Nat) (c:Code) (Q:Exit→AS→Prop):Nat→AS→Prop
 | 0,_=>False
 | n+1,s=>AW P ro N c (qd6 (fun s'=>UW P ro N c Q n s') Q) s
theorem zal {c:Code} (n:Nat) (h:UW P ro N c Q n s):AW P ro N (.loop c) Q s:=by
 refine AW.loop' (fun k s=>UW P ro N c Q k s) ⟨n,s,AS.le_refl s,h⟩ fun k s hk=>?_
 cases k with
 | zero=>exact hk.elim
 | succ k =>
  refine AW.mono (show AW P ro N c (qd6 (fun s'=>UW P ro N c Q k s') Q) s from hk) fun e s' h=>?_
  cases e with
  | normal=>exact ⟨k,Nat.lt_succ_self k,s',AS.le_refl s',h⟩
  | _=>exact h
end
section
variable {P:Program} {ro:Option Nat} {N:Nat} {o:Oper} {sl:List (Nat × HV)} {H:Heap} {all:Array Oper} {rest:List Oper} {Q:AS→Prop}
variable {K:Type} [DecidableEq K] {kt:TypeId} {kh:K→HV} {kf:K→Value} {wf:K→Bool}
theorem qg1 (T:KeyT P kt kh kf wf) {d:Nat} {t et:TypeId} {a b:Nat} {z:Value} {m x:Operand} {id ver:Nat} {k:K} {e:List (K × HV)} {pe:Option (Nat × Value)} {Te:TyI} {zh:HV}
  (h0:(o.guard,o.dst,o.op)=(none,some d,.lookup t m x false)) (hT:ty P t=some ⟨.map kt et,a,b,z⟩) (hTe:ty P et=some Te) (hz:qbQ Te.zero=some zh)
  (hm:(⟨sl,H⟩:AS).ev m=some (.mp id ver)) (hx:(⟨sl,H⟩:AS).ev x=some (kh k)) (hk:wf k=true) (hg:hget H id=some (ver,.gmap (gcan kf e) pe)) (hw:∀ x∈e,wf x.1=true)
  (kk:bops P ro N all rest Q ⟨(d,(qdJ k e).getD zh)::sl,H⟩):bops P ro N all (o::rest) Q ⟨sl,H⟩:=by
 obtain ⟨e1,e2⟩:=Prod.mk.inj h0;obtain ⟨e2,e3⟩:=Prod.mk.inj e2;refine qgq e1 fun hN=>zaA T e3 hN hT rfl hTe hz hm hx hk hg hw ?_;rw [e2]; exact qaG (qcd (s:=⟨sl,H⟩) d _) kk
theorem qjC (T:KeyT P kt kh kf wf) {d:Nat} {t et:TypeId} {a b:Nat} {z:Value} {m x:Operand} {id ver:Nat} {k:K} {e:List (K × HV)} {pe:Option (Nat × Value)} {Te:TyI} {zh:HV}
  (h0:(o.guard,o.dst,o.op)=(none,some d,.lookup t m x true)) (hT:ty P t=some ⟨.map kt et,a,b,z⟩) (hTe:ty P et=some Te) (hz:qbQ Te.zero=some zh)
  (hm:(⟨sl,H⟩:AS).ev m=some (.mp id ver)) (hx:(⟨sl,H⟩:AS).ev x=some (kh k)) (hk:wf k=true) (hg:hget H id=some (ver,.gmap (gcan kf e) pe)) (hw:∀ x∈e,wf x.1=true)
  (kk:bops P ro N all rest Q ⟨(d,.tup [(qdJ k e).getD zh,.bool (qdJ k e).isSome])::sl,H⟩):bops P ro N all (o::rest) Q ⟨sl,H⟩:=by
 obtain ⟨e1,e2⟩:=Prod.mk.inj h0;obtain ⟨e2,e3⟩:=Prod.mk.inj e2;refine qgq e1 fun hN=>zaF T e3 hN hT rfl hTe hz hm hx hk hg hw ?_;rw [e2]; exact qaG (qcd (s:=⟨sl,H⟩) d _) kk
theorem qfS (T:KeyT P kt kh kf wf) {t et:TypeId} {a b:Nat} {z:Value} {m x y:Operand} {id ver:Nat} {k:K} {e:List (K × HV)} {pe:Option (Nat × Value)} {hv:HV}
  (h0:(o.guard,o.dst,o.op)=(none,none,.mapUpdate t m x y)∨(o.guard,o.dst,o.op)=(none,none,.insert t m x y)) (hT:ty P t=some ⟨.map kt et,a,b,z⟩)
  (hm:(⟨sl,H⟩:AS).ev m=some (.mp id ver)) (hx:(⟨sl,H⟩:AS).ev x=some (kh k)) (hk:wf k=true) (hy:(⟨sl,H⟩:AS).ev y=some hv) (hg:hget H id=some (ver,.gmap (gcan kf e) pe)) (hw:∀ x∈e,wf x.1=true) (hni:noIt id H)
  (kk:bops P ro N all rest Q ⟨sl,(id,ver,.gmap (gcan kf (gput k hv e)) none)::H⟩):bops P ro N all (o::rest) Q ⟨sl,H⟩:=by
 have e1:o.guard=none:=by rcases h0 with h0 | h0 <;> exact (Prod.mk.inj h0).1
 have e2:o.dst=none:=by rcases h0 with h0 | h0 <;> exact (Prod.mk.inj (Prod.mk.inj h0).2).1
 have e3:o.op=.mapUpdate t m x y∨o.op=.insert t m x y:=by
  rcases h0 with h0 | h0
  ·exact .inl (Prod.mk.inj (Prod.mk.inj h0).2).2
  exact .inr (Prod.mk.inj (Prod.mk.inj h0).2).2
 refine qgq e1 fun hN=>zaO T e3 hN hT rfl hm hx hk hy hg hw hni ?_;rw [e2];exact qaG (qhQ (s:=⟨sl,H⟩) id ver _ _) kk
theorem qq6 (T:KeyT P kt kh kf wf) {d:Nat} {t et:TypeId} {a b:Nat} {z:Value} {m x:Operand} {id ver:Nat} {k:K} {e:List (K × HV)} {pe:Option (Nat × Value)} {Te:TyI} {zh:HV}
  (h0:(o.guard,o.dst,o.op)=(none,some d,.mapEntry t m x)) (hT:ty P t=some ⟨.map kt et,a,b,z⟩) (hTe:ty P et=some Te) (hz:qbQ Te.zero=some zh)
  (hm:(⟨sl,H⟩:AS).ev m=some (.mp id ver)) (hx:(⟨sl,H⟩:AS).ev x=some (kh k)) (hk:wf k=true) (hg:hget H id=some (ver,.gmap (gcan kf e) pe)) (hw:∀ x∈e,wf x.1=true) (hni:noIt id H)
  (kk:∀ n:Nat,bops P ro N all rest Q ⟨(d,.tup [(qdJ k e).getD zh,.v (goInt n)])::sl,(id,ver,.gmap (gcan kf (qls k zh e)) (some (n,kf k)))::H⟩):bops P ro N all (o::rest) Q ⟨sl,H⟩:=by
 obtain ⟨e1,e2⟩:=Prod.mk.inj h0;obtain ⟨e2,e3⟩:=Prod.mk.inj e2;refine qgq e1 fun hN=>zaE T e3 hN hT rfl hTe hz hm hx hk hg hw hni fun n=>?_;rw [e2]; exact qaG (qel (s:=⟨sl,H⟩) id ver _ d _) (kk n)
theorem qno (hinj:∀ a b,kf a=kf b→a=b) {t:TypeId} {m x y:Operand} {id ver n:Nat} {k:K} {e:List (K × HV)} {hv:HV} (h0:(o.guard,o.dst,o.op)=(none,none,.entryStore t m x y))
  (hm:(⟨sl,H⟩:AS).ev m=some (.mp id ver)) (hx:(⟨sl,H⟩:AS).ev x=some (.v (goInt n))) (hy:(⟨sl,H⟩:AS).ev y=some hv) (hg:hget H id=some (ver,.gmap (gcan kf e) (some (n,kf k)))) (hni:noIt id H)
  (kk:bops P ro N all rest Q ⟨sl,(id,ver,.gmap (gcan kf (gput k hv e)) none)::H⟩):bops P ro N all (o::rest) Q ⟨sl,H⟩:=by
 obtain ⟨e1,e2⟩:=Prod.mk.inj h0;obtain ⟨e2,e3⟩:=Prod.mk.inj e2;refine qgq e1 fun hN=>zax hinj e3 hN hm hx hy hg hni ?_;rw [e2];exact qaG (qhQ (s:=⟨sl,H⟩) id ver _ _) kk
theorem qqw {d:Nat} {t et:TypeId} {a b:Nat} {z:Value} {m:Operand} {mid mver:Nat} {es:List (Value × HV)} {pe:Option (Nat × Value)} (id:Nat) (h0:(o.guard,o.dst,o.op)=(none,some d,.range t m)) (hT:ty P t=some ⟨.map kt et,a,b,z⟩) (hm:(⟨sl,H⟩:AS).ev m=some (.mp mid mver)) (hg:hget H mid=some (mver,.gmap es pe)) (hid:id≠mid)
  (kk:∀ ver,bops P ro N all rest Q ⟨(d,.it id ver)::sl,(id,ver,.iter mid mver [] false)::H⟩):bops P ro N all (o::rest) Q ⟨sl,H⟩:=by
 obtain ⟨h1,h2⟩:=Prod.mk.inj h0;obtain ⟨h2,h3⟩:=Prod.mk.inj h2;refine qgq h1 fun hN=>AOp.rangeG id h3 hN hT rfl hm hg hid fun ver=>?_;rw [h2];exact qaG (qel (s:=⟨sl,H⟩) id ver _ d _) (kk ver)
end
section
variable {P:Program} {ro:Option Nat} {N:Nat} {o:Oper} {sl:List (Nat × HV)} {H:Heap} {all:Array Oper} {rest:List Oper} {Q:AS→Prop}
variable {K:Type} {kt:TypeId} {kh:K→HV} {kf:K→Value} {wf:K→Bool}
theorem qrV {d:Nat} {x:Operand} {id ver mid mver:Nat} {seen:List (List UInt8)} {cur:Bool} {e:List (K × HV)} {pe:Option (Nat × Value)} (kc:∀ w μ k,wf k=true→Rep w μ (kh k) (kf k)) (hci:∀ a b,qcM (kf a)=qcM (kf b)→a=b) (hinj:∀ a b,kf a=kf b→a=b)
  (h0:(o.guard,o.dst,o.op)=(none,some d,.next x false)) (hx:(⟨sl,H⟩:AS).ev x=some (.it id ver)) (hg:hget H id=some (ver,.iter mid mver seen cur)) (hgm:hget H mid=some (mver,.gmap (gcan kf e) pe)) (hw:∀ x∈e,wf x.1=true)
  (h1:(∀ p∈e,qcM (kf p.1)∈seen)→bops P ro N all rest Q ⟨(d,.tup [.bool false])::sl,H⟩)
  (h2:∀ k v,(k,v)∈e→qcM (kf k) ∉ seen→bops P ro N all rest Q ⟨(d,.tup [.bool true,kh k,v])::sl,(id,ver,.iter mid mver (qcM (kf k)::seen) true)::H⟩):bops P ro N all (o::rest) Q ⟨sl,H⟩:=by
 obtain ⟨e1,e2⟩:=Prod.mk.inj h0;obtain ⟨e2,e3⟩:=Prod.mk.inj e2;refine qgq e1 fun hN=>AOp.nextG kc hci hinj e3 hN hx hg hgm hw (fun hall=>?_) (fun k v hk hn=>?_)
 ·rw [e2]
  exact qaG (qcd (s:=⟨sl,H⟩) d _) (h1 hall)
 rw [e2];exact qaG (qel (s:=⟨sl,H⟩) id ver _ d _) (h2 k v hk hn)
end
section
variable {P:Program} {ro:Option Nat} {N:Nat} {o:Oper} {sl:List (Nat × HV)} {H:Heap} {all:Array Oper} {rest:List Oper} {Q:AS→Prop}
variable {K:Type} {kt:TypeId} {kh:K→HV} {kf:K→Value} {wf:K→Bool}
variable [DecidableEq K]
theorem qnn {d:Nat} {x:Operand} {id ver mid mver:Nat} {k:K} {seen:List (List UInt8)} {e:List (K × HV)} {pe:Option (Nat × Value)} {v:HV} (kc:∀ w μ k,wf k=true→Rep w μ (kh k) (kf k)) (hci:∀ a b,qcM (kf a)=qcM (kf b)→a=b) (hinj:∀ a b,kf a=kf b→a=b)
  (h0:(o.guard,o.dst,o.op)=(none,some d,.entry x)) (hx:(⟨sl,H⟩:AS).ev x=some (.it id ver)) (hg:hget H id=some (ver,.iter mid mver (qcM (kf k)::seen) true)) (hgm:hget H mid=some (mver,.gmap (gcan kf e) pe)) (hw:∀ x∈e,wf x.1=true) (hk:qdJ k e=some v)
  (kk:bops P ro N all rest Q ⟨(d,.tup [kh k,v])::sl,H⟩):bops P ro N all (o::rest) Q ⟨sl,H⟩:=by
 obtain ⟨e1,e2⟩:=Prod.mk.inj h0;obtain ⟨e2,e3⟩:=Prod.mk.inj e2;refine qgq e1 fun hN=>AOp.entryG kc hci hinj e3 hN hx hg hgm hw hk ?_;rw [e2];exact qaG (qcd (s:=⟨sl,H⟩) d _) kk
end
def kfSS (k:List UInt8 × List UInt8):Value:=.agg #[strV k.1,strV k.2]
def khSS (k:List UInt8 × List UInt8):HV:=.agg [.str k.1,.str k.2]
def wfSS (k:List UInt8 × List UInt8):Bool:=decide (k.1.length≤maxLen) && decide (k.2.length≤maxLen)
theorem qd4 (a b:List UInt8 × List UInt8) (h:kfSS a=kfSS b):a=b:=by
 obtain ⟨a1,a2⟩:=a;obtain ⟨b1,b2⟩:=b;simp [kfSS,strV] at h;simp [h]
theorem qkP (w:World) (μ:Mu) (k:List UInt8 × List UInt8) (h:wfSS k=true):Rep w μ (khSS k) (kfSS k):=by
 simp only [wfSS,Bool.and_eq_true,decide_eq_true_eq] at h;refine ⟨fun d hd=>?_,_,rfl,_,_,rfl,⟨rfl,h.1⟩,_,_,rfl,⟨rfl,h.2⟩,rfl⟩;simp only [List.mem_cons,List.not_mem_nil,or_false] at hd
 rcases hd with rfl | rfl <;> rfl
theorem qq2 (k:List UInt8 × List UInt8):qcM (kfSS k)=List.replicate k.1.length 1++0::(k.1++k.2):=rfl
theorem qov:∀ (n m:Nat) (u v:List UInt8),List.replicate n (1:UInt8)++0::u=List.replicate m 1++0::v→n=m∧u=v
 | 0,0,u,v,h=>⟨rfl,by simpa using h⟩
 | 0,m+1,u,v,h=>by simp [List.replicate_succ] at h
 | n+1,0,u,v,h=>by simp [List.replicate_succ] at h
 | n+1,m+1,u,v,h=>by
  simp only [List.replicate_succ,List.cons_append,List.cons.injEq,true_and] at h;have:=qov n m u v h;exact ⟨by omega,this.2⟩
theorem qhY (a b:List UInt8 × List UInt8) (h:qcM (kfSS a)=qcM (kfSS b)):a=b:=by
 rw [qq2,qq2] at h;obtain ⟨h1,h2⟩:=qov _ _ _ _ h;obtain ⟨a1,a2⟩:=a;obtain ⟨b1,b2⟩:=b;obtain ⟨rfl,rfl⟩:=List.append_inj h2 h1;rfl
open Go.Proofs
theorem qbc:KeyT Tryz.prog 116 khSS kfSS wfSS where
 law:=Go.Maps.Keyed.of_law (deep_law (m:=3) (by decide) (by kernel_rfl) (by kernel_rfl) (by kernel_rfl))
 inj:=qd4
 kv:=by
  rintro ⟨a,b⟩ h
  have hb:a.length≤maxLen∧b.length≤maxLen:=by
   have:=h;unfold wfSS at this
   simpa [Bool.and_eq_true,decide_eq_true_eq] using this
  obtain ⟨h1,h2⟩:=hb
  have hk:hkey Tryz.prog (Tryz.prog.types.size+1) 116 [HV.str a,HV.str b]=some [Lit.string a,Lit.string b]:=by kernel_rfl
  have hu:(match Tryz.prog.underlying 116 with | some (.struct _)=>true | _=>false)=true:=by kernel_rfl
  have hf:(Tryz.prog.keyType 116 && (Value.agg #[strV a,strV b]).formed Tryz.prog 116)=true:=by kernel_rfl
  refine ⟨?_,?_⟩
  ·rintro w μ x ⟨_,vs,rfl,x1,_,rfl,⟨rfl,_⟩,x2,_,rfl,⟨rfl,_⟩,rfl⟩
   rfl
  have hr:RepL default (⟨0,fun _=>none,fun _=>False⟩:Mu) [HV.str a,HV.str b] [strV a,strV b]:=⟨_,_,rfl,⟨rfl,h1⟩,_,_,rfl,⟨rfl,h2⟩,rfl⟩;have hl:=qhs hr hk;unfold keyOf kfSS;split
  ·rename_i he; rw [he] at hu; cases hu
  ·rw [if_pos hf]
   show ∃ l,Option.map _ (Tryz.prog.keyLits _ _ [strV a,strV b])=some l;rw [hl];exact ⟨_,rfl⟩
  rename_i h1 h2
  split at hu
  ·rename_i fs he; exact absurd he (h2 fs)
  cases hu
section
variable {P:Program} {ro:Option Nat} {N:Nat} {s:AS}
theorem AOp.buildA {o:Oper} {K:AS→Prop} {t e:TypeId} {n:Nat} {ps:Array (Nat × Operand)} {T E:TyI} {zs cs:List HV} {qs:List (Nat × HV)} (hop:o.op=.build t ps) (hN:okd N o.dst=true) (hT:ty P t=some T) (hTd:T.desc=.array n e) (hE:ty P e=some E)
  (hz:qbj T.zero=some zs) (hq:qee s ps.toList=some qs) (hf:qgM (fun i=>some (i*E.size,E.size)) qs zs=some cs) (k:K (s.put o.dst (.agg cs))):AOp P ro N o K s:=by
 refine AOp.value (fun c e=>by rw [hop] at e; cases e) hN fun B μ a w hs=>?_;obtain ⟨hl,hp⟩:=qeN hs hq;have hz0:=qdC (w:=w) (μ:=μ) hz;obtain ⟨cells,h1,h2,h3⟩:=qhv (fun i=>some (i*E.size,E.size)) hl hp (qdv hz) hz0 hf
 have htd:P.underlying t=some (.array n e):=by rw [← hTd]; exact (qby hT).1
 refine ⟨.agg cells,.agg cs,μ,w,s.heap,?_,hs.sr,Evo.refl w μ,⟨h2,cells.toList,rfl,h3⟩,k⟩
 have h4:Instr.fill (fun i=>some (i*E.size,E.size)) T.zero.cells (ps.map fun (i,x)=>(i,a.eval x)).toList=some cells:=by
  rw [← h1]
  congr 1
  simp
 have hb:(Instr.build t (ps.map fun (i,x)=>(i,a.eval x))).run P w=.ok (.agg cells) w:=by
  simp only [Instr.build,Sem.run_bind,qej hT,Result.andThen_ok,run_underlying htd,qbb hE,h4];rfl
 simp only [execOp,hop,Sem.run_bind,hb,Result.andThen_ok];rfl
end
section
variable {P:Program} {ro:Option Nat} {N:Nat} {o:Oper} {sl:List (Nat × HV)} {H:Heap} {all:Array Oper} {rest:List Oper} {Q:AS→Prop}
theorem qiS {d:Nat} {t e:TypeId} {n a b:Nat} {z:Value} {ps:Array (Nat × Operand)} {E:TyI} {zs cs:List HV} {qs:List (Nat × HV)} (h0:(o.guard,o.dst,o.op)=(none,some d,.build t ps)) (hT:ty P t=some ⟨.array n e,a,b,z⟩) (hE:ty P e=some E)
  (hz:qbj z=some zs) (hq:qee ⟨sl,H⟩ ps.toList=some qs) (hf:qgM (fun i=>some (i*E.size,E.size)) qs zs=some cs) (kk:bops P ro N all rest Q ⟨(d,.agg cs)::sl,H⟩):bops P ro N all (o::rest) Q ⟨sl,H⟩:=by
 obtain ⟨h1,h2⟩:=Prod.mk.inj h0;obtain ⟨h2,h3⟩:=Prod.mk.inj h2;refine qgq h1 fun hN=>AOp.buildA h3 hN hT rfl hE hz hq hf ?_;rw [h2];exact qaG (qcd (s:=⟨sl,H⟩) d _) kk
end
section
variable {P:Program} {ro:Option Nat} {N B:Nat} {s:AS} {μ μ':Mu} {a:Act} {w w':World}
theorem AOp.appendQs {o:Oper} {K:AS→Prop} {t xt e:TypeId} {T Te:TyI} {x y:Operand} {hy:HV} {i ver off n m:Nat} {xs ds:List HV}
  (hop:o.op=.call { callee:=.builtin .append,args:=#[x,y],argTypes:=#[t,xt] }) (hN:okd N o.dst=true) (hT:ty P t=some T) (hd:T.desc=.slice e) (hTe:ty P e=some Te)
  (hz:(qbj Te.zero).any (fun zs=>zs.length == Te.size)=true) (hex:s.ev x=some (.ar i ver Te.size off n)) (hey:s.ev y=some hy)
  (hg:hget s.heap i=some (ver,.arr Te.size e xs)) (hlen:off+n*Te.size=xs.length) (hsrc:asrc P s xt Te.size hy fun m' ds'=>m'=m∧ds'=ds)
  (hbytes:(n+m)*Te.bytes≤140737488355328) (h63:n+m≤maxLen)
  (hk1:∀ v,K (({ s with heap:=hset s.heap i v (.arr Te.size e (xs++ds)) }:AS).put o.dst (.ar i v Te.size off (n+m))))
  (hk2:∀ v,K (({ s with heap:=hset s.heap i v (.arr Te.size e (xs.drop off++ds)) }:AS).put o.dst (.ar i v Te.size 0 (n+m)))):AOp P ro N o K s:=by
 refine zaB (off:=off) (pcs:=xs.take off) (cs:=xs.drop off) i hop hN hT hd hTe hz hey hsrc hbytes h63 (fun B μ a w hs=>?_) (fun v=>?_) hk2
 ·obtain ⟨l,hl,hor⟩:=hs.sr.has i _ _ hg
  rcases hs.ev hex with ⟨l',hl',hxr⟩ | ⟨hdd,_⟩
  case inr=>exact absurd hl (hdd.2 l)
  rw [hl] at hl';cases hl'
  rcases hxr with ⟨rfl,he,rfl,rfl⟩ | ⟨b,cap,cur,e3,rfl,he,hnc,hcm,hrow,hsz⟩
  ·have hxs:xs=[]:=hor
   exact ⟨none,0,[],he,by simp [hxs,RepL],by rw [hxs]; simp [ones],by simp,.inl ⟨rfl,rfl,fun _=>rfl⟩⟩
  obtain ⟨h1,cur',us,rest,hrow',hcl,hrl⟩:=hor;obtain ⟨rfl,rfl⟩:=hrow.inj hrow';have hul:=hrl.length;refine ⟨_,cap,us.drop off,he,hrl.drop _,h1.drop _,by simp; omega,.inr ⟨b,cur,us.take off,rfl,hnc,hcm,hrow,hsz,?_,hrl.take _,h1.take _,by simp; omega,ver,hl⟩⟩;rw [List.take_append_drop,hcl,List.take_append_of_le_length (by omega),List.take_of_length_le (by omega)]
 have:=hk1 v
 rwa [← List.append_assoc,List.take_append_drop]
theorem AOp.appendV {o:Oper} {K:AS→Prop} {t xt e:TypeId} {T Te:TyI} {x y:Operand} {hy:HV} {a0:Option Addr} {m:Nat} {ds:List HV} (i:Nat)
  (hop:o.op=.call { callee:=.builtin .append,args:=#[x,y],argTypes:=#[t,xt] }) (hN:okd N o.dst=true) (hT:ty P t=some T) (hd:T.desc=.slice e) (hTe:ty P e=some Te)
  (hz:(qbj Te.zero).any (fun zs=>zs.length == Te.size)=true) (hex:s.ev x=some (.v (.slice a0 0 0))) (hey:s.ev y=some hy)
  (hsrc:asrc P s xt Te.size hy fun m' ds'=>m'=m∧ds'=ds) (hm0:1≤m)
  (hbytes:m*Te.bytes≤140737488355328) (h63:m≤maxLen)
  (hk2:∀ v,K (({ s with heap:=hset s.heap i v (.arr Te.size e ds) }:AS).put o.dst (.ar i v Te.size 0 m))):AOp P ro N o K s:=by
 refine zaB (n:=0) (off:=0) (pcs:=[]) (cs:=[]) i hop hN hT hd hTe hz hey hsrc (by rw [Nat.zero_add]; exact hbytes) (by rw [Nat.zero_add]; exact h63) (fun B μ a w hs=>⟨a0,0,[],hs.ev hex,rfl,ones.nil,by simp,.inl ⟨rfl,rfl,fun e=>by omega⟩⟩) (fun v=>?_) (fun v=>?_)
 all_goals
  rw [Nat.zero_add];exact hk2 v
theorem AOp.sliceQs {o:Oper} {K:AS→Prop} {t e e':TypeId} {T:TyI} {x lo:Operand} {i ver k off n:Nat} {xs:List HV} {lk:IntKind}
  (hop:o.op=.slice t x (some lo) none none) (hN:okd N o.dst=true) (hT:ty P t=some T) (hd:T.desc=.slice e) (hk:qbn P t=some k) (hex:s.ev x=some (.ar i ver k off n)) (hlo:s.ev lo=some (.int lk 1))
  (hg:hget s.heap i=some (ver,.arr k e' xs)) (hn:1≤n)
  (hk1:∀ v,K (({ s with heap:=hset s.heap i v (.arr k e' xs) }:AS).put o.dst (.ar i v k (off+k) (n - 1))))
  (hk2:n=1→∀ a0:Option Addr,K (s.put o.dst (.v (.slice a0 0 0)))):AOp P ro N o K s:=by
 refine AOp.value (fun c e=>by rw [hop] at e; cases e) hN fun B μ a w hs=>?_;obtain ⟨l,hl,hor⟩:=hs.sr.has i _ _ hg;have hu:=qaN hT;rw [hd] at hu;have hz:=qcj hT hd hk w
 rcases hs.ev hex with ⟨l',hl',hxr⟩ | ⟨hdd,_⟩
 case inr=>exact absurd hl (hdd.2 l)
 rw [hl] at hl';cases hl'
 rcases hxr with ⟨rfl,_,h0,_⟩ | ⟨b,cap,cur,e3,rfl,he,hnc,hcm,hrow,hsz⟩
 ·omega
 have hb:=qez (P:=P) hs (lo:=some lo) (hi:=none) (p:=1) (q:=n) true n cap (by simp [asl,hlo]) rfl (by omega) (by omega) (by omega);simp only [Option.map_some,Option.map_none,Int.toNat_one,Int.toNat_natCast] at hb;by_cases hpc:cap=1
 ·have hn1:n=1:=by omega
  subst hn1 hpc;refine ⟨.slice (some ⟨b,off,none⟩) 0 0,.v (.slice (some ⟨b,off,none⟩) 0 0),μ,w,s.heap,?_,hs.sr,Evo.refl w μ,rfl,hk2 rfl _⟩;simp [execOp,hop,Instr.sliceAt,Instr.slice,he,hu,hb,hz]
 refine ⟨.slice (some ⟨b,off+1*k,none⟩) (n - 1) (cap - 1),.ar i ver k (off+k) (n - 1),μ,w,_,?_,hs.sr.same hg,Evo.refl w μ,.inl ⟨some b,hl,.inr ⟨b,cap - 1,cur,e3,rfl,by rw [Nat.one_mul],by omega,by omega,hrow,?_⟩⟩,hk1 ver⟩
 ·simp [execOp,hop,Instr.sliceAt,Instr.slice,he,hu,hb,hz,hpc,Addr.add_lit]
 obtain ⟨c',rfl⟩:∃ c',cap=c'+1:=⟨cap - 1,by omega⟩;rw [Nat.add_sub_cancel,← hsz,Nat.add_mul,Nat.one_mul];omega
end
section
variable {P:Program} {ro:Option Nat} {N:Nat} {o:Oper} {sl:List (Nat × HV)} {H:Heap} {all:Array Oper} {rest:List Oper} {K:AS→Prop} {α:Type} (c:EncL α)
theorem qiE {s:AS} {t e:TypeId} {a b:Nat} {z:Value} {x i:Operand} {k m n id ver:Nat} {o:AObj} {k':IntKind} {j:Int} (hT:ty P t=some ⟨.slice e,a,b,z⟩) (hE:qbn P t=some k) (hx:s.ev x=some (.ar id ver k m n)) (hi:s.ev i=some (.int k' j)) (hj:0≤j∧j<n) (hg:hget s.heap id=some (ver,o)) :
  aval P (.indexAddr t x i) s (· = .ptr id ver (m+j.toNat*k)):=by
 simp only [aval,hT,hE,hx,hi];exact ⟨trivial,hj.1,hj.2,by simp only [qiC,hg],trivial⟩
theorem qtd {pre l:List α} {j:Int} {x:α} (h:idx l j=some x):idx (pre++l) ((pre.length:Int)+j)=some x∧((pre.length:Int)+j).toNat=pre.length+j.toNat:=by
 obtain ⟨h0,h1⟩:=qay h
 have e:((pre.length:Int)+j).toNat=pre.length+j.toNat:=by omega
 refine ⟨?_,e⟩;unfold idx;rw [if_pos (by omega),e,List.getElem?_append_right (by omega),Nat.add_sub_cancel_left];exact qkR h
theorem qkO {T:TyI} {pre l:List α} {j:Int} {x:α} (h:idx l j=some x) (ha:aggD T.desc=true) (hs:T.size=c.k):qdI T (c.E (pre++l)) (pre.length*c.k+j.toNat*c.k) (· = .agg (c.C x)):=by
 obtain ⟨h1,h2⟩:=qtd (pre:=pre) h;have:=qgg c h1 ha hs
 rwa [h2,Nat.add_mul] at this
theorem qpm {d:Nat} {t xt e e2:TypeId} {a b a2 b2:Nat} {z z2:Value} {aa:Array Operand} {ts:Array TypeId} {x y:Operand} {Te:TyI} {pre l m:List α} {id ver:Nat}
  (hgd:o.guard=none) (h0:(o.dst,o.op)=(some d,.call ⟨.builtin .append,aa,ts⟩)) (ha:(aa.toList,ts.toList)=([x,y],[t,xt])) (hT:ty P t=some ⟨.slice e,a,b,z⟩) (hxt:ty P xt=some ⟨.slice e2,a2,b2,z2⟩) (hTe:ty P e=some Te)
  (hx:(⟨sl,H⟩:AS).ev x=some (.ar id ver c.k (pre.length*c.k) l.length)) (hg:hget H id=some (ver,.arr c.k e (c.E (pre++l)))) (hy:(⟨sl,H⟩:AS).ev y=some (.sl c.k m.length (c.E m)))
  (hk:Te.size=c.k) (hz:(qbj Te.zero).any (fun zs=>zs.length == Te.size)=true) (h:fits Te.bytes (l.length+m.length))
  (k:∀ ver' pre',bops P ro N all rest K ⟨(d,.ar id ver' c.k (List.length (α:=α) pre'*c.k) (l++m).length)::sl,(id,ver',.arr c.k e (c.E (pre'++(l++m))))::H⟩):bops P ro N all (o::rest) K ⟨sl,H⟩:=by
 refine qgq hgd fun hN=>?_;obtain ⟨e2',e3⟩:=Prod.mk.inj h0;obtain ⟨e4,e5⟩:=Prod.mk.inj ha
 have e4:aa = #[x,y]:=by rw [← Array.toArray_toList (xs:=aa),e4]
 have e5:ts = #[t,xt]:=by rw [← Array.toArray_toList (xs:=ts),e5]
 subst e4 e5;obtain ⟨f1,f2⟩:=h;rw [← hk] at hx hg hy;refine AOp.appendQs (ds:=c.E m) (m:=m.length) e3 hN hT rfl hTe hz hx hy hg (by rw [c.append,List.length_append,c.len,c.len,hk]) ?_ f1 f2 (fun v=>?_) (fun v=>?_)
 ·simp only [asrc,hxt]
  exact ⟨trivial,trivial,trivial⟩
 ·have:=k v pre
  rw [← List.append_assoc,c.append,List.length_append,← hk] at this;rw [e2'];exact qaG (qcd (s:=⟨sl,hset H id v _⟩) d _) (qaG (qjn H id v _ _) this)
 have:=k v [];rw [List.nil_append,c.append,List.length_append,List.length_nil,Nat.zero_mul,← hk] at this
 have hdr:(c.E (pre++l)).drop (pre.length*Te.size)=c.E l:=by
  rw [c.append,hk,← c.len,List.drop_left]
 rw [e2',hdr];exact qaG (qcd (s:=⟨sl,hset H id v _⟩) d _) (qaG (qjn H id v _ _) this)
theorem qjA {d:Nat} {t e:TypeId} {a b:Nat} {z:Value} {x lo:Operand} {pre l:List α} {id ver:Nat} {lk:IntKind}
  (hgd:o.guard=none) (h0:(o.dst,o.op)=(some d,.slice t x (some lo) none none)) (hT:ty P t=some ⟨.slice e,a,b,z⟩) (hk:qbn P t=some c.k)
  (hx:(⟨sl,H⟩:AS).ev x=some (.ar id ver c.k (pre.length*c.k) l.length)) (hlo:(⟨sl,H⟩:AS).ev lo=some (.int lk 1)) (hg:hget H id=some (ver,.arr c.k e (c.E (pre++l)))) (hn:1≤l.length)
  (k:∀ ver' pre',bops P ro N all rest K ⟨(d,.ar id ver' c.k (List.length (α:=α) pre'*c.k) (l.drop 1).length)::sl,(id,ver',.arr c.k e (c.E (pre'++l.drop 1)))::H⟩)
  (kv:l.length=1→∀ a0:Option Addr,bops P ro N all rest K ⟨(d,.v (.slice a0 0 0))::sl,H⟩):bops P ro N all (o::rest) K ⟨sl,H⟩:=by
 refine qgq hgd fun hN=>?_;obtain ⟨e2',e3⟩:=Prod.mk.inj h0
 cases l with
 | nil=>simp at hn
 | cons y l =>
  simp only [List.drop_succ_cons,List.drop_zero] at k;refine AOp.sliceQs e3 hN hT rfl hk hx hlo hg hn (fun v=>?_) (fun h1 a0=>?_)
  ·have:=k v (pre++[y])
   rw [List.append_assoc,List.length_append,List.length_singleton,Nat.add_mul,Nat.one_mul] at this;rw [e2'];exact qaG (qcd (s:=⟨sl,hset H id v _⟩) d _) (qaG (qjn H id v _ _) this)
  rw [e2'];exact qaG (qcd (s:=⟨sl,H⟩) d _) (kv h1 a0)
theorem qrW {d:Nat} {t xt e e2:TypeId} {a b a2 b2:Nat} {z z2:Value} {aa:Array Operand} {ts:Array TypeId} {x y:Operand} {Te:TyI} {m:List α} {a0:Option Addr} (id:Nat)
  (hgd:o.guard=none) (h0:(o.dst,o.op)=(some d,.call ⟨.builtin .append,aa,ts⟩)) (ha:(aa.toList,ts.toList)=([x,y],[t,xt])) (hT:ty P t=some ⟨.slice e,a,b,z⟩) (hxt:ty P xt=some ⟨.slice e2,a2,b2,z2⟩) (hTe:ty P e=some Te)
  (hx:(⟨sl,H⟩:AS).ev x=some (.v (.slice a0 0 0))) (hy:(⟨sl,H⟩:AS).ev y=some (.sl c.k m.length (c.E m)))
  (hk:Te.size=c.k) (hz:(qbj Te.zero).any (fun zs=>zs.length == Te.size)=true) (hm:1≤m.length) (h:fits Te.bytes m.length)
  (k:∀ ver',bops P ro N all rest K ⟨(d,.ar id ver' c.k (List.length (α:=α) []*c.k) m.length)::sl,(id,ver',.arr c.k e (c.E ([]++m)))::H⟩):bops P ro N all (o::rest) K ⟨sl,H⟩:=by
 refine qgq hgd fun hN=>?_;obtain ⟨e2',e3⟩:=Prod.mk.inj h0;obtain ⟨e4,e5⟩:=Prod.mk.inj ha
 have e4:aa = #[x,y]:=by rw [← Array.toArray_toList (xs:=aa),e4]
 have e5:ts = #[t,xt]:=by rw [← Array.toArray_toList (xs:=ts),e5]
 subst e4 e5;obtain ⟨f1,f2⟩:=h;rw [← hk] at hy;refine AOp.appendV (ds:=c.E m) (m:=m.length) id e3 hN hT rfl hTe hz hx hy ?_ hm f1 f2 (fun v=>?_)
 ·simp only [asrc,hxt]
  exact ⟨trivial,trivial,trivial⟩
 have:=k v;rw [List.nil_append,List.length_nil,Nat.zero_mul,← hk] at this;rw [e2'];exact qaG (qcd (s:=⟨sl,hset H id v _⟩) d _) (qaG (qjn H id v _ _) this)
end
section
variable {P:Program} {ro:Option Nat} {N:Nat} {Q:Exit→AS→Prop} {s:AS}
theorem AW.seqK {x y:Code} (h:∀ A:AS→Prop,(∀ s',AW P ro N y Q s'→A s')→(∀ s',s'.to A→A s')→AW P ro N x (qd6 A Q) s):AW P ro N (.seq x y) Q s :=
 zad (h _ (fun _ h=>h) fun _ h=>AW.to h)
theorem UW.inv {α:Type} {c:Code} (I:α→AS) (Pr:α→Prop) (m:α→Nat) (hstep:∀ a,Pr a→∀ A:AS→Prop,(∀ b,Pr b→m b<m a→A (I b))→(∀ s',s'.to A→A s')→AW P ro N c (qd6 A Q) (I a)):∀ (n:Nat) (a:α),Pr a→m a<n→UW P ro N c Q n (I a)
 | n+1,a,ha,hn=>by
  have h:=hstep a ha (fun s'=>s'.to (UW P ro N c Q n)) (fun b hb hlt=>ql1 (UW.inv I Pr m hstep n b hb (by omega))) fun s' h=>qeE h;exact AW.fin (Q:=qd6 (UW P ro N c Q n) Q) (AW.mono h fun e s' h=>by cases e <;> exact h)
theorem qhb {s s':AS} {G:AS→Prop} (h:G s') (hl:s.le s'):s.to G:=qaZ hl h
theorem UW.step {c:Code} {n:Nat} (h:∀ A:AS→Prop,(∀ s',UW P ro N c Q (n+1) s'→A s')→(∀ s',s'.to A→A s')→AW P ro N c (qd6 A Q) s):UW P ro N c Q (n+2) s :=
 h _ (fun _ h=>h) fun _ h=>AW.to h
end
section
variable {P:Program} {ro:Option Nat} {N:Nat} {o:Oper} {sl:List (Nat × HV)} {H:Heap} {all:Array Oper} {rest:List Oper} {Q:AS→Prop}
variable {K:Type} [DecidableEq K] {kt:TypeId} {kh:K→HV} {kf:K→Value} {wf:K→Bool}
theorem qgc (hN:okd N o.dst=true) (T:KeyT P kt kh kf wf) {d:Nat} {t et:TypeId} {a b:Nat} {z:Value} {m x:Operand} {id ver:Nat} {k:K} {e:List (K × HV)} {pe:Option (Nat × Value)} {Te:TyI} {zh:HV}
  (h0:(o.dst,o.op)=(some d,.lookup t m x false)) (hT:ty P t=some ⟨.map kt et,a,b,z⟩) (hTe:ty P et=some Te) (hz:qbQ Te.zero=some zh)
  (hm:(⟨sl,H⟩:AS).ev m=some (.mp id ver)) (hx:(⟨sl,H⟩:AS).ev x=some (kh k)) (hk:wf k=true) (hg:hget H id=some (ver,.gmap (gcan kf e) pe)) (hw:∀ x∈e,wf x.1=true)
  (kk:bops P ro N all rest Q ⟨(d,(qdJ k e).getD zh)::sl,H⟩):AOp P ro N o (fun s'=>bops P ro N all rest Q s') ⟨sl,H⟩:=by
 obtain ⟨e2,e3⟩:=Prod.mk.inj h0;refine zaA T e3 hN hT rfl hTe hz hm hx hk hg hw ?_;rw [e2]; exact qaG (qcd (s:=⟨sl,H⟩) d _) kk
theorem qhf {o:Oper} {s:AS} (T:KeyT P kt kh kf wf) {t et:TypeId} {a b:Nat} {z:Value} {m x:Operand} {id ver:Nat} {k:K} {e:List (K × HV)} {pe:Option (Nat × Value)} {Te:TyI} {zh:HV} {R:HV→Prop}
  (h0:o.op=.lookup t m x false) (hT:ty P t=some ⟨.map kt et,a,b,z⟩) (hTe:ty P et=some Te) (hz:qbQ Te.zero=some zh)
  (hm:s.ev m=some (.mp id ver)) (hx:s.ev x=some (kh k)) (hk:wf k=true) (hg:hget s.heap id=some (ver,.gmap (gcan kf e) pe)) (hw:∀ x∈e,wf x.1=true)
  (kk:R ((qdJ k e).getD zh)):aopS P o R s:=by
 unfold aopS;rw [h0];exact ⟨_,kk,fun ro N s2 hN hh he K hK=>zaA T h0 hN hT rfl hTe hz (by rw [he m (by rw [h0]; simp [Op.operands])]; exact hm) (by rw [he x (by rw [h0]; simp [Op.operands])]; exact hx) hk (by rw [hh]; exact hg) hw hK⟩
theorem qgu {o:Oper} {s:AS} (T:KeyT P kt kh kf wf) {t et:TypeId} {a b:Nat} {z:Value} {m x:Operand} {id ver:Nat} {k:K} {e:List (K × HV)} {pe:Option (Nat × Value)} {Te:TyI} {zh hv:HV} {R:HV→Prop}
  (h0:o.op=.lookup t m x false) (hT:ty P t=some ⟨.map kt et,a,b,z⟩) (hTe:ty P et=some Te) (hz:qbQ Te.zero=some zh)
  (hm:s.ev m=some (.mp id ver)) (hx:s.ev x=some (kh k)) (hk:wf k=true) (hg:hget s.heap id=some (ver,.gmap (gcan kf e) pe)) (hw:∀ x∈e,wf x.1=true) (hl:(qdJ k e).getD zh=hv)
  (kk:R hv):aopS P o R s:=qhf T h0 hT hTe hz hm hx hk hg hw (hl ▸ kk)
theorem qkV (T:KeyT P kt kh kf wf) {d:Nat} {t et:TypeId} {a b:Nat} {z:Value} {m x:Operand} {id ver:Nat} {k:K} {e:List (K × HV)} {pe:Option (Nat × Value)} {Te:TyI} {zh hv:HV}
  (h0:(o.guard,o.dst,o.op)=(none,some d,.lookup t m x false)) (hT:ty P t=some ⟨.map kt et,a,b,z⟩) (hTe:ty P et=some Te) (hz:qbQ Te.zero=some zh)
  (hm:(⟨sl,H⟩:AS).ev m=some (.mp id ver)) (hx:(⟨sl,H⟩:AS).ev x=some (kh k)) (hk:wf k=true) (hg:hget H id=some (ver,.gmap (gcan kf e) pe)) (hw:∀ x∈e,wf x.1=true) (hl:(qdJ k e).getD zh=hv)
  (kk:bops P ro N all rest Q ⟨(d,hv)::sl,H⟩):bops P ro N all (o::rest) Q ⟨sl,H⟩:=qg1 T h0 hT hTe hz hm hx hk hg hw (hl ▸ kk)
theorem qid (hN:okd N o.dst=true) (T:KeyT P kt kh kf wf) {d:Nat} {t et:TypeId} {a b:Nat} {z:Value} {m x:Operand} {id ver:Nat} {k:K} {e:List (K × HV)} {pe:Option (Nat × Value)} {Te:TyI} {zh:HV}
  (h0:(o.dst,o.op)=(some d,.mapEntry t m x)) (hT:ty P t=some ⟨.map kt et,a,b,z⟩) (hTe:ty P et=some Te) (hz:qbQ Te.zero=some zh)
  (hm:(⟨sl,H⟩:AS).ev m=some (.mp id ver)) (hx:(⟨sl,H⟩:AS).ev x=some (kh k)) (hk:wf k=true) (hg:hget H id=some (ver,.gmap (gcan kf e) pe)) (hw:∀ x∈e,wf x.1=true) (hni:noIt id H)
  (kk:∀ n:Nat,bops P ro N all rest Q ⟨(d,.tup [(qdJ k e).getD zh,.v (goInt n)])::sl,(id,ver,.gmap (gcan kf (qls k zh e)) (some (n,kf k)))::H⟩):AOp P ro N o (fun s'=>bops P ro N all rest Q s') ⟨sl,H⟩:=by
 obtain ⟨e2,e3⟩:=Prod.mk.inj h0;refine zaE T e3 hN hT rfl hTe hz hm hx hk hg hw hni fun n=>?_;rw [e2]; exact qaG (qel (s:=⟨sl,H⟩) id ver _ d _) (kk n)
theorem qiM (hN:okd N o.dst=true) (hinj:∀ a b,kf a=kf b→a=b) {t:TypeId} {m x y:Operand} {id ver n:Nat} {k:K} {e:List (K × HV)} {hv:HV} (h0:(o.dst,o.op)=(none,.entryStore t m x y))
  (hm:(⟨sl,H⟩:AS).ev m=some (.mp id ver)) (hx:(⟨sl,H⟩:AS).ev x=some (.v (goInt n))) (hy:(⟨sl,H⟩:AS).ev y=some hv) (hg:hget H id=some (ver,.gmap (gcan kf e) (some (n,kf k)))) (hni:noIt id H)
  (kk:bops P ro N all rest Q ⟨sl,(id,ver,.gmap (gcan kf (gput k hv e)) none)::H⟩):AOp P ro N o (fun s'=>bops P ro N all rest Q s') ⟨sl,H⟩:=by
 obtain ⟨e2,e3⟩:=Prod.mk.inj h0;refine zax hinj e3 hN hm hx hy hg hni ?_;rw [e2];exact qaG (qhQ (s:=⟨sl,H⟩) id ver _ _) kk
theorem AOp.lenV {s:AS} {K:AS→Prop} {t e:TypeId} {T:TyI} {x:Operand} {a0:Option Addr} (hop:o.op=.call { callee:=.builtin .len,args:=#[x],argTypes:=#[t] }) (hN:okd N o.dst=true) (hT:ty P t=some T) (hd:T.desc=.slice e)
  (hx:s.ev x=some (.v (.slice a0 0 0))) (k:K (s.put o.dst (.int .i64 0))):AOp P ro N o K s:=by
 refine AOp.value (fun c e=>by rw [hop] at e; cases e) hN fun B μ a w hs=>?_;have he:a.eval x=.slice a0 0 0:=hs.ev hx;have hu:=qaN hT;rw [hd] at hu;refine ⟨.int .i64 0,.int .i64 0,μ,w,s.heap,?_,hs.sr,Evo.refl w μ,⟨rfl,by decide⟩,k⟩;simp [execOp,hop,he,resolve,invoke,builtin,Builtin.len_,goInt,hu]
theorem qsC {d:Nat} {t e:TypeId} {a b:Nat} {z:Value} {x:Operand} {a0:Option Addr} {aa:Array Operand} {ts:Array TypeId} (hgd:o.guard=none) (h0:(o.dst,o.op)=(some d,.call ⟨.builtin .len,aa,ts⟩)) (ha:(aa.toList,ts.toList)=([x],[t])) (hT:ty P t=some ⟨.slice e,a,b,z⟩)
  (hx:(⟨sl,H⟩:AS).ev x=some (.v (.slice a0 0 0))) (kk:bops P ro N all rest Q ⟨(d,.int .i64 0)::sl,H⟩):bops P ro N all (o::rest) Q ⟨sl,H⟩:=by
 refine qgq hgd fun hN=>?_;obtain ⟨e2',e3⟩:=Prod.mk.inj h0;obtain ⟨e4,e5⟩:=Prod.mk.inj ha
 have e4:aa = #[x]:=by rw [← Array.toArray_toList (xs:=aa),e4]
 have e5:ts = #[t]:=by rw [← Array.toArray_toList (xs:=ts),e5]
 subst e4 e5;refine AOp.lenV e3 hN hT rfl hx ?_;rw [e2'];exact qaG (qcd (s:=⟨sl,H⟩) d _) kk
end
def EmptyQ (id ver k n:Nat) (q:HV):Prop:=q=.ar id ver k (n*k) 0∨∃ a0:Option Addr,q=.v (.slice a0 0 0)
theorem EmptyQ.cells {id ver k n:Nat} {q:HV} (h:EmptyQ id ver k n q):q.cells?=some [q]:=by
 rcases h with rfl | ⟨a0,rfl⟩ <;> rfl
section
variable {P:Program} {ro:Option Nat} {N:Nat} {o:Oper} {sl:List (Nat × HV)} {H:Heap} {all:Array Oper} {rest:List Oper} {K:AS→Prop} {α:Type} (c:EncL α)
theorem qqf {sl:List (Nat × HV)} {H:Heap} {id ver:Nat} {ob:AObj} (hg:hget H id=some (ver,ob)):(⟨sl,H⟩:AS).le ⟨sl,(id,ver,ob)::H⟩:=by
 refine ⟨fun _ _ h=>h,fun j x h=>?_⟩;simp only [hget] at h;split at h
 ·rename_i e; rw [e,hg]; exact h
 exact h
theorem qhA {d:Nat} {t e:TypeId} {a b:Nat} {z:Value} {x lo:Operand} {pre l:List α} {id ver:Nat} {lk:IntKind}
  (hgd:o.guard=none) (h0:(o.dst,o.op)=(some d,.slice t x (some lo) none none)) (hT:ty P t=some ⟨.slice e,a,b,z⟩) (hk:qbn P t=some c.k)
  (hx:(⟨sl,H⟩:AS).ev x=some (.ar id ver c.k (pre.length*c.k) l.length)) (hlo:(⟨sl,H⟩:AS).ev lo=some (.int lk 1)) (hg:hget H id=some (ver,.arr c.k e (c.E (pre++l)))) (hn:l.length=1)
  (k:∀ ver' (pre':List α) q,EmptyQ id ver' c.k pre'.length q→bops P ro N all rest K ⟨(d,q)::sl,(id,ver',.arr c.k e (c.E pre'))::H⟩):bops P ro N all (o::rest) K ⟨sl,H⟩:=by
 refine qjA c hgd h0 hT hk hx hlo hg (by omega) (fun v p=>?_) (fun _ a0=>?_)
 ·have hd:l.drop 1=[]:=List.drop_eq_nil_of_le (by omega)
  rw [hd,List.append_nil];exact k v p _ (.inl rfl)
 refine qaG ?_ (k ver (pre++l) (.v (.slice a0 0 0)) (.inr ⟨a0,rfl⟩));exact qqf hg
theorem qpn {d:Nat} {t xt e e2:TypeId} {a b a2 b2:Nat} {z z2:Value} {aa:Array Operand} {ts:Array TypeId} {x y:Operand} {Te:TyI} {m p:List α} {id ver:Nat} {q:HV} (hq:EmptyQ id ver c.k p.length q)
  (hgd:o.guard=none) (h0:(o.dst,o.op)=(some d,.call ⟨.builtin .append,aa,ts⟩)) (ha:(aa.toList,ts.toList)=([x,y],[t,xt])) (hT:ty P t=some ⟨.slice e,a,b,z⟩) (hxt:ty P xt=some ⟨.slice e2,a2,b2,z2⟩) (hTe:ty P e=some Te)
  (hx:(⟨sl,H⟩:AS).ev x=some q) (hg:hget H id=some (ver,.arr c.k e (c.E p))) (hy:(⟨sl,H⟩:AS).ev y=some (.sl c.k m.length (c.E m)))
  (hk:Te.size=c.k) (hz:(qbj Te.zero).any (fun zs=>zs.length == Te.size)=true) (hm:1≤m.length) (h:fits Te.bytes m.length)
  (k:∀ ver' pre',bops P ro N all rest K ⟨(d,.ar id ver' c.k (List.length (α:=α) pre'*c.k) m.length)::sl,(id,ver',.arr c.k e (c.E (pre'++m)))::H⟩):bops P ro N all (o::rest) K ⟨sl,H⟩:=by
 rcases hq with rfl | ⟨a0,rfl⟩
 ·exact qpm c (pre:=p) (l:=[]) (m:=m) hgd h0 ha hT hxt hTe hx (by rw [List.append_nil]; exact hg) hy hk hz (by simpa using h) k
 exact qrW c id hgd h0 ha hT hxt hTe hx hy hk hz hm h fun v=>k v []
theorem qpl {d:Nat} {t e:TypeId} {a b:Nat} {z:Value} {x:Operand} {aa:Array Operand} {ts:Array TypeId} {id ver n kk:Nat} {ob:AObj} {q:HV} (hq:EmptyQ id ver kk n q) (hgd:o.guard=none) (h0:(o.dst,o.op)=(some d,.call ⟨.builtin .len,aa,ts⟩)) (ha:(aa.toList,ts.toList)=([x],[t])) (hT:ty P t=some ⟨.slice e,a,b,z⟩)
  (hx:(⟨sl,H⟩:AS).ev x=some q) (hg:hget H id=some (ver,ob)) (k:bops P ro N all rest K ⟨(d,.int .i64 0)::sl,H⟩):bops P ro N all (o::rest) K ⟨sl,H⟩:=by
 rcases hq with rfl | ⟨a0,rfl⟩
 ·obtain ⟨e1,e2⟩:=Prod.mk.inj h0
  obtain ⟨e4,e5⟩:=Prod.mk.inj ha;refine bv (hv:=.int .i64 0) (by rw [hgd,e1,e2]; rfl) ?_ k;rw [e2];exact qeS (n:=0) e5 e4 hT hx hg
 exact qsC hgd h0 ha hT hx k
end
set_option maxHeartbeats 1600000
set_option maxRecDepth 100000
abbrev W35:HV:=slE eStr ([[48],[48,48,49]]:List (List UInt8))
abbrev qqM:List ((List UInt8 × List UInt8) × HV):=[(([],[48,49]),hI 9223372036854775807)]
abbrev qsF:List ((List UInt8 × List UInt8) × HV):=[(([],[49]),.v (.slice none 0 0))]
abbrev qqL:List ((List UInt8 × List UInt8) × HV):=[(([],[49]),slE eFirstSecond ([([],[48,49])]:List qah))]
abbrev qbp:List ((List UInt8 × List UInt8) × HV):=[(([],[48,49]),hI 1)]
abbrev qqK:List ((List UInt8 × List UInt8) × HV):=[(([],[48,49]),hI 9223372036854775807),(([],[49]),hI 9223372036854775807)]
abbrev qsE:List ((List UInt8 × List UInt8) × HV):=[(([],[49]),slE eFirstSecond ([([],[48,49])]:List qah)),(([48,49],[49]),.v (.slice none 0 0))]
abbrev qmz:List ((List UInt8 × List UInt8) × HV):=[(([],[49]),slE eFirstSecond ([([],[48,49])]:List qah)),(([48,49],[49]),slE eFirstSecond ([([],[48,49])]:List qah))]
abbrev qfY:List ((List UInt8 × List UInt8) × HV):=[(([],[48,49]),hI 2)]
abbrev qqJ:List ((List UInt8 × List UInt8) × HV):=[(([],[48,49]),hI 9223372036854775807),(([],[49]),hI 9223372036854775807),(([48,49],[49]),hI 9223372036854775807)]
abbrev qkZ:List ((List UInt8 × List UInt8) × HV):=[(([],[48,49]),hI 0)]
abbrev qq9:List ((List UInt8 × List UInt8) × HV):=[(([],[48,49]),hI 1),(([],[49]),hI 0),(([48,49],[49]),hI 0)]
abbrev qcw:=([([],[48,49])]:List qah)
abbrev qiD:=([([],[49]),([48,49],[49])]:List qah)
abbrev qlV:=([([],[49])]:List qah)
abbrev qn7:=([([48,49],[49])]:List qah)
theorem qq8 (a b:Nat):Pure Tryz.prog 59 [.agg [hI 2,W35,.mp a b],hI 0] (· = slE eFirstSecond qcw):=by
 refine zaj Tryz.func59 rfl rfl (lb rfl) fun hf=>?_;clear hf;unfold Tryz.f59;dsimp only [qaL,Nat.reduceAdd];refine zaa rfl fun K hK=>b_op rfl (qbh rfl rfl rfl ?_);refine mv rfl rfl ?_;refine qab (hK _ ?_);refine zaa rfl fun K hK=>bv rfl (qac qeM rfl) (bv rfl (qac qgj rfl) (bv rfl (qad ty22 rfl (qaj rfl rfl)) (mv rfl rfl (bv rfl (qaI ty22 es22 rfl rfl (qay (show idx ([[48],[48,48,49]]:List (List UInt8)) 0=some _ from rfl))) (bv rfl (qad ty9 rfl (qaW eStr (show idx ([[48],[48,48,49]]:List (List UInt8)) 0=some _ from rfl) (o:=0) rfl rfl)) ?_)))));refine mv rfl rfl ?_;refine qab (hK _ ?_);refine zaa rfl fun K hK=>b_op rfl (qcT (fid:=59) HV.bool 59024 rfl rfl (fun v1=>?_));refine mv rfl rfl ?_;refine qab (hK _ ?_);refine zad ?_;refine zaa rfl fun K hK=>bv rfl (qac qeM rfl) (bv rfl (qac qgj rfl) (bv rfl (qad ty22 rfl (qaj rfl rfl)) (bv rfl (qav rfl rfl ty22 rfl) (mv rfl rfl ?_))));refine qab (hK _ ?_);refine zaf ?_;refine zal 16 ?_;refine zaa rfl fun K hK=>bv rfl (qag rfl rfl qaF) ?_;refine qab (hK _ ?_);refine zak rfl (fun _=>?_) (fun hc=>absurd hc (by decide));refine zac ?_;refine zad (zaf ?_);refine zaa rfl fun K hK=>mv rfl rfl (bv rfl (qaI ty22 es22 rfl rfl (qay (show idx ([[48],[48,48,49]]:List (List UInt8)) 0=some _ from rfl))) (bv rfl (qad ty9 rfl (qaW eStr (show idx ([[48],[48,48,49]]:List (List UInt8)) 0=some _ from rfl) (o:=0) rfl rfl)) (mv rfl rfl (mv rfl rfl ?_))));refine qab (hK _ ?_);refine zad ?_;refine zaa rfl fun K hK=>mv rfl rfl (mv rfl rfl (bv rfl (qag rfl rfl qdT) ?_));refine qab (hK _ ?_);refine zae rfl (fun _=>?_) (fun hc=>absurd hc (by decide));refine AW.exit ?_;refine zab rfl fun K hK=>bv rfl (qag rfl rfl qaX) (mv rfl rfl ?_);refine qab (hK _ ?_);show UW _ _ _ _ _ _ _;let P1:ASf:=fun t H=>⟨(1,hI 0)::(2,.fptr [hI 2,W35,.mp a b] 0)::(5,.str [48])::(6,.mp 59024 v1)::(27,W35)::(28,hI 2)::t,H⟩;refine AW.to (qaZ (s':=(P1 [(29,hI 1)] [(59024,v1,.map (entE HV.bool []))])) (le_q rfl rfl) ?_);refine zaa rfl fun K hK=>bv rfl (qag rfl rfl qaF) ?_;refine qab (hK _ ?_);refine zak rfl (fun _=>?_) (fun hc=>absurd hc (by decide));refine zac ?_;refine zad (zaf ?_);refine zaa rfl fun K hK=>mv rfl rfl (bv rfl (qaI ty22 es22 rfl rfl (qay (show idx ([[48],[48,48,49]]:List (List UInt8)) 1=some _ from rfl))) (bv rfl (qad ty9 rfl (qaW eStr (show idx ([[48],[48,48,49]]:List (List UInt8)) 1=some _ from rfl) (o:=0) rfl rfl)) (mv rfl rfl (mv rfl rfl ?_))));refine qab (hK _ ?_);refine zad ?_;refine zaa rfl fun K hK=>mv rfl rfl (mv rfl rfl (bv rfl (qag rfl rfl qdT) ?_));refine qab (hK _ ?_);refine zae rfl (fun hc=>absurd hc (by decide)) (fun _=>?_);refine zac ?_;refine zad ?_;refine zaa rfl fun K hK=>mv rfl rfl (mv rfl rfl ?_);refine b_op rfl (qat rfl rfl rfl rfl (zai (qcz (p0:=[48,48,49]) (p1:=[48]) (r:=true) (by decide))) ?_);refine qab (hK _ ?_);refine zae rfl (fun _=>?_) (fun hc=>absurd hc (by decide));refine zab rfl fun K hK=>mv rfl rfl (mv rfl rfl (mv rfl rfl (bv rfl (qcb rfl rfl ty9 rfl) (bv rfl (qc2 ty9 rfl rfl rfl (by decide)) ?_))));refine b_op rfl (qhg HV.bool (es:=[]) (k:=[48,49]) (v:=true) (.inl rfl) qiu ty9 rfl rfl rfl rfl trivial ?_);refine qab (hK _ ?_);show AW _ _ _ _ _ _;refine zad ?_;refine zaa rfl fun K hK=>mv rfl rfl (mv rfl rfl ?_);refine b_op rfl (qat rfl rfl rfl rfl (zai (qcz (p0:=[48]) (p1:=[48,48,49]) (r:=false) (by decide))) ?_);refine bv rfl (qdX rfl) ?_;refine qab (hK _ ?_);refine zae rfl (fun _=>?_) (fun hc=>absurd hc (by decide));refine AW.exit ?_;refine zab rfl fun K hK=>bv rfl (qag rfl rfl qaX) (mv rfl rfl ?_);refine qab (hK _ ?_);show UW _ _ _ _ _ _ _;refine AW.to (qaZ (s':=(P1 [(29,hI 2)] [(59024,v1,.map (entE HV.bool [([48,49],true)]))])) (le_q rfl rfl) ?_);refine zaa rfl fun K hK=>bv rfl (qag rfl rfl qaF) ?_;refine qab (hK _ ?_);refine zak rfl (fun hc=>absurd hc (by decide)) (fun _=>?_);refine AW.exit ?_;refine zaa rfl fun K hK=>mv rfl rfl ?_;refine qab (hK _ ?_);refine zad ?_;refine zaa rfl fun K hK=>mv rfl rfl ?_;refine qjB 59092 rfl qiu rfl rfl (by decide) fun v2=>?_;refine qab (hK _ ?_);refine zaf ?_
 refine zal 16 ?_;refine zaa rfl fun K hK=>qgr (es:=[([48,49],.bool true)]) rfl rfl rfl rfl (fun h10=>?_) (fun k11 x12 h13 h14=>?_)
 ·exact absurd h10 (by decide)
 rcases List.mem_cons.1 h13 with h15 | h13
 ·cases h15
  clear h14;refine bv rfl (qak rfl rfl) ?_;refine qab (hK _ ?_);refine zak rfl (fun _=>?_) (fun hc=>absurd hc (by decide));refine zac ?_;refine zaf ?_;refine zaa rfl fun K hK=>qh1 (k:=[48,49]) (v:=HV.bool true) rfl rfl rfl rfl rfl ?_;refine bv rfl (qak rfl rfl) (mv rfl rfl ?_);refine qab (hK _ ?_);refine zab rfl fun K hK=>mv rfl rfl (mv rfl rfl ?_);refine b_op rfl (qcC (cs:=[.str nS,.str [48,49]]) rfl (qfM qaJ rfl rfl rfl rfl) ?_);refine b_op rfl (qdx rfl rfl (qdp (cs:=[.str nS,.str [48,49]]) qaR qaJ rfl rfl rfl rfl rfl) ?_);refine b_op rfl (qmS (fid:=59) eFirstSecond (m:=qcw) 59101 rfl rfl rfl qaR qaR qaJ rfl rfl rfl rfl (by decide) (fun v16=>?_));refine mv rfl rfl ?_;refine qab (hK _ ?_);show UW _ _ _ _ _ _ _;refine AW.to (qaZ (s':=⟨[(16,.ar 59101 v16 eFirstSecond.k 0 ((qcw).length)),(92,HV.it 59092 v2)],[(59024,v1,.map (entE HV.bool [([48,49],true)])),(59092,v2,.iter 59024 v1 [[48,49]] true),(59101,v16,.arr eFirstSecond.k 116 (eFirstSecond.E qcw))]⟩) (le_q rfl rfl) ?_);refine zaa rfl fun K hK=>qgr (es:=[([48,49],.bool true)]) rfl rfl rfl rfl (fun h23=>?_) (fun k24 x25 h26 h27=>?_)
  ·clear h23
   refine bv rfl (qak rfl rfl) ?_;refine qab (hK _ ?_);refine zak rfl (fun hc=>absurd hc (by decide)) (fun _=>?_);refine AW.exit ?_;refine zaa rfl fun K hK=>mv rfl rfl (mv rfl rfl ?_);refine qab (hK _ ?_);refine AW.to (qgP 2 [(59101,v16,.arr eFirstSecond.k 116 (eFirstSecond.E qcw))] ⟨[(4,slE eFirstSecond qcw)],[]⟩ ⟨⟨_,rfl,qci eFirstSecond (l:=qcw) rfl fun _ _=>rfl⟩,trivial⟩ trivial ⟨rfl,trivial⟩ ⟨rfl,trivial⟩ ?_);refine AW.ret ?_;exact qae (.inr rfl) (resT rfl rfl) rfl (qar fun _ _=>⟨trivial,trivial,trivial⟩)
  rcases List.mem_cons.1 h26 with h28 | h26
  ·cases h28
   exact absurd (by decide) h27
  cases h26
 cases h13
theorem qq7 (a b:Nat):Pure Tryz.prog 59 [.agg [hI 2,W35,.mp a b],hI 1] (· = slE eFirstSecond ([]:List qah)):=by
 refine zaj Tryz.func59 rfl rfl (lb rfl) fun hf=>?_;clear hf;unfold Tryz.f59;dsimp only [qaL,Nat.reduceAdd];refine zaa rfl fun K hK=>b_op rfl (qbh rfl rfl rfl ?_);refine mv rfl rfl ?_;refine qab (hK _ ?_);refine zaa rfl fun K hK=>bv rfl (qac qeM rfl) (bv rfl (qac qgj rfl) (bv rfl (qad ty22 rfl (qaj rfl rfl)) (mv rfl rfl (bv rfl (qaI ty22 es22 rfl rfl (qay (show idx ([[48],[48,48,49]]:List (List UInt8)) 1=some _ from rfl))) (bv rfl (qad ty9 rfl (qaW eStr (show idx ([[48],[48,48,49]]:List (List UInt8)) 1=some _ from rfl) (o:=0) rfl rfl)) ?_)))));refine mv rfl rfl ?_;refine qab (hK _ ?_);refine zaa rfl fun K hK=>b_op rfl (qcT (fid:=59) HV.bool 59024 rfl rfl (fun v1=>?_));refine mv rfl rfl ?_;refine qab (hK _ ?_);refine zad ?_;refine zaa rfl fun K hK=>bv rfl (qac qeM rfl) (bv rfl (qac qgj rfl) (bv rfl (qad ty22 rfl (qaj rfl rfl)) (bv rfl (qav rfl rfl ty22 rfl) (mv rfl rfl ?_))));refine qab (hK _ ?_);refine zaf ?_;refine zal 16 ?_;refine zaa rfl fun K hK=>bv rfl (qag rfl rfl qaF) ?_;refine qab (hK _ ?_);refine zak rfl (fun _=>?_) (fun hc=>absurd hc (by decide));refine zac ?_;refine zad (zaf ?_);refine zaa rfl fun K hK=>mv rfl rfl (bv rfl (qaI ty22 es22 rfl rfl (qay (show idx ([[48],[48,48,49]]:List (List UInt8)) 0=some _ from rfl))) (bv rfl (qad ty9 rfl (qaW eStr (show idx ([[48],[48,48,49]]:List (List UInt8)) 0=some _ from rfl) (o:=0) rfl rfl)) (mv rfl rfl (mv rfl rfl ?_))));refine qab (hK _ ?_);refine zad ?_;refine zaa rfl fun K hK=>mv rfl rfl (mv rfl rfl (bv rfl (qag rfl rfl qdT) ?_));refine qab (hK _ ?_);refine zae rfl (fun hc=>absurd hc (by decide)) (fun _=>?_);refine zac ?_;refine zad ?_;refine zaa rfl fun K hK=>mv rfl rfl (mv rfl rfl ?_);refine b_op rfl (qat rfl rfl rfl rfl (zai (qcz (p0:=[48]) (p1:=[48,48,49]) (r:=false) (by decide))) ?_);refine qab (hK _ ?_);refine zae rfl (fun hc=>absurd hc (by decide)) (fun _=>?_);refine zac ?_;refine zad ?_;refine zaa rfl fun K hK=>mv rfl rfl (mv rfl rfl ?_);refine b_op rfl (qat rfl rfl rfl rfl (zai (qcz (p0:=[48,48,49]) (p1:=[48]) (r:=true) (by decide))) ?_);refine bv rfl (qdX rfl) ?_;refine qab (hK _ ?_);refine zae rfl (fun hc=>absurd hc (by decide)) (fun _=>?_);refine zac ?_;refine zaa rfl fun K hK=>b_op rfl (qcT (fid:=59) HV.bool 59049 rfl rfl (fun v410=>?_));refine b_op rfl (qhg HV.bool (es:=[]) (k:=nS) (v:=true) (.inr rfl) qiu ty9 rfl rfl rfl rfl trivial ?_);refine mv rfl rfl (mv rfl rfl ?_);refine qab (hK _ ?_);refine zad ?_;refine zaa rfl fun K hK=>mv rfl rfl (bv rfl (qcb rfl rfl ty9 rfl) (mv rfl rfl ?_));refine qab (hK _ ?_);refine zaf ?_;refine zal 16 ?_;refine zad ?_;refine zaa rfl fun K hK=>mv rfl rfl (mv rfl rfl (bv rfl (qcb rfl rfl ty9 rfl) (bv rfl (qag rfl rfl qaF) ?_)));refine qab (hK _ ?_);refine zae rfl (fun _=>?_) (fun hc=>absurd hc (by decide));refine zac ?_;refine zad (zaf ?_);refine zaa rfl fun K hK=>b_op rfl (qcT (fid:=59) HV.bool 59059 rfl rfl (fun v463=>?_));refine mv rfl rfl ?_;refine qab (hK _ ?_);refine AW.seqK fun Au464 hAu464 hTu464=>?_;let E1:Nat × HV:=(2,.fptr [hI 2,W35,.mp a b] 0);let O2:Nat × Nat × AObj:=(59024,v1,.map (entE HV.bool []));let O3:Nat × Nat × AObj:=(59059,v463,.map (entE HV.bool [(nS,true),([48,49],true)]));let P2:ASf:=fun t H=>⟨(1,hI 1)::E1::(5,.str [48,48,49])::(6,.mp 59024 v1)::t,O2::H⟩
 have cu464_0:Au464 (P2 [(10,hI 1),(11,.mp 59059 v463),(27,W35),(28,hI 2),(29,hI 0)] [O3]):=by
  refine hAu464 _ ?_;refine zab rfl fun K hK=>mv rfl rfl (mv rfl rfl ?_);refine qab (hK _ ?_);show AW _ _ _ _ _ _;refine zab rfl fun K hK=>mv rfl rfl (bv rfl (qag rfl rfl qaX) (mv rfl rfl ?_));refine qab (hK _ ?_);show UW _ _ _ _ _ _ _;refine zad ?_;refine zaa rfl fun K hK=>mv rfl rfl (mv rfl rfl (bv rfl (qcb rfl rfl ty9 rfl) (bv rfl (qag rfl rfl qaF) ?_)));refine qab (hK _ ?_);refine zae rfl (fun _=>?_) (fun hc=>absurd hc (by decide));refine zac ?_;refine zad (zaf ?_);refine zaa rfl fun K hK=>b_op rfl (qcT (fid:=1059) HV.bool 1059059 rfl rfl (fun v636=>?_));refine mv rfl rfl ?_;refine qab (hK _ ?_);refine AW.seqK fun Au637 hAu637 hTu637=>?_;let O4:Nat × Nat × AObj:=(1059059,v636,.map (entE HV.bool []))
  have cu637_0:Au637 (P2 [(10,hI 2),(11,.mp 1059059 v636),(27,W35),(28,hI 2),(29,hI 0)] [O4]):=by
   refine hAu637 _ ?_;refine zab rfl fun K hK=>mv rfl rfl (mv rfl rfl ?_);refine qab (hK _ ?_);show AW _ _ _ _ _ _;refine zab rfl fun K hK=>mv rfl rfl (bv rfl (qag rfl rfl qaX) (mv rfl rfl ?_));refine qab (hK _ ?_);show UW _ _ _ _ _ _ _;refine zad ?_;refine zaa rfl fun K hK=>mv rfl rfl (mv rfl rfl (bv rfl (qcb rfl rfl ty9 rfl) (bv rfl (qag rfl rfl qaF) ?_)));refine qab (hK _ ?_);refine zae rfl (fun hc=>absurd hc (by decide)) (fun _=>?_);refine AW.exit ?_;refine zaa rfl fun K hK=>mv rfl rfl ?_;refine qjB 59083 rfl qiu rfl rfl (by decide) fun v710=>?_;refine qab (hK _ ?_);refine zaf ?_;refine zal 16 ?_;refine zaa rfl fun K hK=>qgr (es:=[]) rfl rfl rfl rfl (fun h716=>?_) (fun k717 x718 h719 h720=>?_)
   ·clear h716
    refine bv rfl (qak rfl rfl) ?_;refine qab (hK _ ?_);refine zak rfl (fun hc=>absurd hc (by decide)) (fun _=>?_);refine AW.exit ?_;refine zab rfl fun K hK=>bv rfl (qag rfl rfl qaX) (mv rfl rfl ?_);refine qab (hK _ ?_);show UW _ _ _ _ _ _ _;refine zaa rfl fun K hK=>bv rfl (qag rfl rfl qaF) ?_;refine qab (hK _ ?_);refine zak rfl (fun _=>?_) (fun hc=>absurd hc (by decide));refine zac ?_;refine zad (zaf ?_);refine zaa rfl fun K hK=>mv rfl rfl (bv rfl (qaI ty22 es22 rfl rfl (qay (show idx ([[48],[48,48,49]]:List (List UInt8)) 1=some _ from rfl))) (bv rfl (qad ty9 rfl (qaW eStr (show idx ([[48],[48,48,49]]:List (List UInt8)) 1=some _ from rfl) (o:=0) rfl rfl)) (mv rfl rfl (mv rfl rfl ?_))));refine qab (hK _ ?_);refine zad ?_;refine zaa rfl fun K hK=>mv rfl rfl (mv rfl rfl (bv rfl (qag rfl rfl qdT) ?_));refine qab (hK _ ?_);refine zae rfl (fun _=>?_) (fun hc=>absurd hc (by decide));refine AW.exit ?_;refine zab rfl fun K hK=>bv rfl (qag rfl rfl qaX) (mv rfl rfl ?_);refine qab (hK _ ?_);show UW _ _ _ _ _ _ _;refine AW.to (qaZ (s':=(P2 [(27,W35),(28,hI 2),(29,hI 2)] [])) (le_q rfl rfl) ?_);refine zaa rfl fun K hK=>bv rfl (qag rfl rfl qaF) ?_;refine qab (hK _ ?_);refine zak rfl (fun hc=>absurd hc (by decide)) (fun _=>?_);refine AW.exit ?_;refine zaa rfl fun K hK=>mv rfl rfl ?_;refine qab (hK _ ?_);refine zad ?_;refine zaa rfl fun K hK=>mv rfl rfl ?_;refine qjB 59092 rfl qiu rfl rfl (by decide) fun v721=>?_;refine qab (hK _ ?_);refine zaf ?_;refine zal 16 ?_;refine zaa rfl fun K hK=>qgr (es:=[]) rfl rfl rfl rfl (fun h727=>?_) (fun k728 x729 h730 h731=>?_)
    ·clear h727
     refine bv rfl (qak rfl rfl) ?_;refine qab (hK _ ?_);refine zak rfl (fun hc=>absurd hc (by decide)) (fun _=>?_);refine AW.exit ?_;refine zaa rfl fun K hK=>mv rfl rfl (mv rfl rfl ?_);refine qab (hK _ ?_);refine AW.to (qcR ⟨[(4,slE eFirstSecond ([]:List qah))],[]⟩ ⟨⟨_,rfl,.nil _⟩,trivial⟩ trivial ?_);refine AW.ret ?_;exact qae (.inr rfl) (resT rfl rfl) rfl (qar fun _ _=>⟨trivial,trivial,trivial⟩)
    cases h730
   cases h719
  refine zaa rfl fun K hK=>mv rfl rfl ?_;refine qjB 59061 rfl qiu rfl rfl (by decide) fun v732=>?_;refine qab (hK _ ?_);refine zaf ?_;refine zal 16 ?_;refine UW.step fun Au740 hAu740 hTu740=>?_
  have cu740_0:Au740 (P2 [(10,hI 2),(11,.mp 1059059 v636),(27,W35),(28,hI 2),(29,hI 0),(61,HV.it 59061 v732)] [O3,(59061,v732,.iter 59059 v463 [nS] true),O4]):=by
   refine hAu740 _ ?_;refine zaa rfl fun K hK=>qgr (es:=[(nS,.bool true),([48,49],.bool true)]) rfl rfl rfl rfl (fun h748=>?_) (fun k749 x750 h751 h752=>?_)
   ·exact absurd h748 (by decide)
   rcases List.mem_cons.1 h751 with h753 | h751
   ·cases h753
    exact absurd (by decide) h752
   rcases List.mem_cons.1 h751 with h754 | h751
   ·cases h754
    clear h752;refine bv rfl (qak rfl rfl) ?_;refine qab (hK _ ?_);refine zak rfl (fun _=>?_) (fun hc=>absurd hc (by decide));refine zac ?_;refine zaf ?_;refine zaa rfl fun K hK=>qh1 (k:=[48,49]) (v:=HV.bool true) rfl rfl rfl rfl rfl ?_;refine bv rfl (qak rfl rfl) (mv rfl rfl ?_);refine qab (hK _ ?_);refine zao 9 follows rfl rfl fun K hK=>?_;refine sv rfl (qac qeM rfl) ?_;refine sv rfl (qad ty65 rfl (qao rfl (lb rfl) rfl)) ?_
    iterate 3 refine sm rfl rfl ?_
    refine sv rfl (qen ty9 rfl rfl (show idx [48,48,49] 2=some _ from rfl)) ?_;refine s_op rfl rfl (qaV rfl rfl rfl rfl (zai (qcA qmL)) ?_);refine sv rfl (qav rfl rfl ty22 rfl) ?_;refine sm rfl rfl ?_;refine qb7 ?_;refine qab (hK _ ?_);refine zaf ?_;refine zal 16 ?_;refine zaa rfl fun K hK=>bv rfl (qag rfl rfl qaF) ?_;refine qab (hK _ ?_);refine zak rfl (fun hc=>absurd hc (by decide)) (fun _=>?_);refine AW.exit ?_;show UW _ _ _ _ _ _ _;refine zaa rfl fun K hK=>qgr (es:=[(nS,.bool true),([48,49],.bool true)]) rfl rfl rfl rfl (fun h762=>?_) (fun k763 x764 h765 h766=>?_)
    ·clear h762
     refine bv rfl (qak rfl rfl) ?_;refine qab (hK _ ?_);refine zak rfl (fun hc=>absurd hc (by decide)) (fun _=>?_);refine AW.exit ?_;exact hTu637 _ (qhb (cu637_0) (le_q rfl rfl))
    rcases List.mem_cons.1 h765 with h767 | h765
    ·cases h767
     exact absurd (by decide) h766
    rcases List.mem_cons.1 h765 with h768 | h765
    ·cases h768
     exact absurd (by decide) h766
    cases h765
   cases h751
  have cu740_1:Au740 (P2 [(10,hI 2),(11,.mp 1059059 v636),(27,W35),(28,hI 2),(29,hI 0),(61,HV.it 59061 v732)] [O3,(59061,v732,.iter 59059 v463 [[48,49]] true),O4]):=by
   refine hAu740 _ ?_;refine zaa rfl fun K hK=>qgr (es:=[(nS,.bool true),([48,49],.bool true)]) rfl rfl rfl rfl (fun h776=>?_) (fun k777 x778 h779 h780=>?_)
   ·exact absurd h776 (by decide)
   rcases List.mem_cons.1 h779 with h781 | h779
   ·cases h781
    clear h780;refine bv rfl (qak rfl rfl) ?_;refine qab (hK _ ?_);refine zak rfl (fun _=>?_) (fun hc=>absurd hc (by decide));refine zac ?_;refine zaf ?_;refine zaa rfl fun K hK=>qh1 (k:=nS) (v:=HV.bool true) rfl rfl rfl rfl rfl ?_;refine bv rfl (qak rfl rfl) (mv rfl rfl ?_);refine qab (hK _ ?_);refine zao 9 follows rfl rfl fun K hK=>?_;refine sv rfl (qac qeM rfl) ?_;refine sv rfl (qad ty65 rfl (qao rfl (lb rfl) rfl)) ?_
    iterate 3 refine sm rfl rfl ?_
    refine sv rfl (qen ty9 rfl rfl (show idx [48,48,49] 2=some _ from rfl)) ?_;refine s_op rfl rfl (qaV rfl rfl rfl rfl (zai (qcA qmM)) ?_);refine sv rfl (qav rfl rfl ty22 rfl) ?_;refine sm rfl rfl ?_;refine qb7 ?_;refine qab (hK _ ?_);refine zaf ?_;refine zal 16 ?_;refine zaa rfl fun K hK=>bv rfl (qag rfl rfl qaF) ?_;refine qab (hK _ ?_);refine zak rfl (fun hc=>absurd hc (by decide)) (fun _=>?_);refine AW.exit ?_;show UW _ _ _ _ _ _ _;refine zaa rfl fun K hK=>qgr (es:=[(nS,.bool true),([48,49],.bool true)]) rfl rfl rfl rfl (fun h789=>?_) (fun k790 x791 h792 h793=>?_)
    ·clear h789
     refine bv rfl (qak rfl rfl) ?_;refine qab (hK _ ?_);refine zak rfl (fun hc=>absurd hc (by decide)) (fun _=>?_);refine AW.exit ?_;exact hTu637 _ (qhb (cu637_0) (le_q rfl rfl))
    rcases List.mem_cons.1 h792 with h794 | h792
    ·cases h794
     exact absurd (by decide) h793
    rcases List.mem_cons.1 h792 with h795 | h792
    ·cases h795
     exact absurd (by decide) h793
    cases h792
   rcases List.mem_cons.1 h779 with h796 | h779
   ·cases h796
    exact absurd (by decide) h780
   cases h779
  refine zaa rfl fun K hK=>qgr (es:=[(nS,.bool true),([48,49],.bool true)]) rfl rfl rfl rfl (fun h797=>?_) (fun k798 x799 h800 h801=>?_)
  ·exact absurd h797 (by decide)
  rcases List.mem_cons.1 h800 with h802 | h800
  ·cases h802
   clear h801;refine bv rfl (qak rfl rfl) ?_;refine qab (hK _ ?_);refine zak rfl (fun _=>?_) (fun hc=>absurd hc (by decide));refine zac ?_;refine zaf ?_;refine zaa rfl fun K hK=>qh1 (k:=nS) (v:=HV.bool true) rfl rfl rfl rfl rfl ?_;refine bv rfl (qak rfl rfl) (mv rfl rfl ?_);refine qab (hK _ ?_);refine zao 9 follows rfl rfl fun K hK=>?_;refine sv rfl (qac qeM rfl) ?_;refine sv rfl (qad ty65 rfl (qao rfl (lb rfl) rfl)) ?_
   iterate 3 refine sm rfl rfl ?_
   refine sv rfl (qen ty9 rfl rfl (show idx [48,48,49] 2=some _ from rfl)) ?_;refine s_op rfl rfl (qaV rfl rfl rfl rfl (zai (qcA qmM)) ?_);refine sv rfl (qav rfl rfl ty22 rfl) ?_;refine sm rfl rfl ?_;refine qb7 ?_;refine qab (hK _ ?_);refine zaf ?_;refine zal 16 ?_;refine zaa rfl fun K hK=>bv rfl (qag rfl rfl qaF) ?_;refine qab (hK _ ?_);refine zak rfl (fun hc=>absurd hc (by decide)) (fun _=>?_);refine AW.exit ?_;exact hTu740 _ (qhb (cu740_0) (le_q rfl rfl))
  rcases List.mem_cons.1 h800 with h803 | h800
  ·cases h803
   clear h801;refine bv rfl (qak rfl rfl) ?_;refine qab (hK _ ?_);refine zak rfl (fun _=>?_) (fun hc=>absurd hc (by decide));refine zac ?_;refine zaf ?_;refine zaa rfl fun K hK=>qh1 (k:=[48,49]) (v:=HV.bool true) rfl rfl rfl rfl rfl ?_;refine bv rfl (qak rfl rfl) (mv rfl rfl ?_);refine qab (hK _ ?_);refine zao 9 follows rfl rfl fun K hK=>?_;refine sv rfl (qac qeM rfl) ?_;refine sv rfl (qad ty65 rfl (qao rfl (lb rfl) rfl)) ?_
   iterate 3 refine sm rfl rfl ?_
   refine sv rfl (qen ty9 rfl rfl (show idx [48,48,49] 2=some _ from rfl)) ?_;refine s_op rfl rfl (qaV rfl rfl rfl rfl (zai (qcA qmL)) ?_);refine sv rfl (qav rfl rfl ty22 rfl) ?_;refine sm rfl rfl ?_;refine qb7 ?_;refine qab (hK _ ?_);refine zaf ?_;refine zal 16 ?_;refine zaa rfl fun K hK=>bv rfl (qag rfl rfl qaF) ?_;refine qab (hK _ ?_);refine zak rfl (fun hc=>absurd hc (by decide)) (fun _=>?_);refine AW.exit ?_;exact hTu740 _ (qhb (cu740_1) (le_q rfl rfl))
  cases h800
 refine zaa rfl fun K hK=>mv rfl rfl ?_;refine qjB 59061 rfl qiu rfl rfl (by decide) fun v804=>?_;refine qab (hK _ ?_);refine zaf ?_;refine zal 16 ?_;refine zaa rfl fun K hK=>qgr (es:=[(nS,.bool true)]) rfl rfl rfl rfl (fun h811=>?_) (fun k812 x813 h814 h815=>?_)
 ·exact absurd h811 (by decide)
 rcases List.mem_cons.1 h814 with h816 | h814
 ·cases h816
  clear h815;refine bv rfl (qak rfl rfl) ?_;refine qab (hK _ ?_);refine zak rfl (fun _=>?_) (fun hc=>absurd hc (by decide));refine zac ?_;refine zaf ?_;refine zaa rfl fun K hK=>qh1 (k:=nS) (v:=HV.bool true) rfl rfl rfl rfl rfl ?_;refine bv rfl (qak rfl rfl) (mv rfl rfl ?_);refine qab (hK _ ?_);refine zao 9 follows rfl rfl fun K hK=>?_;refine sv rfl (qac qeM rfl) ?_;refine sv rfl (qad ty65 rfl (qao rfl (lb rfl) rfl)) ?_
  iterate 3 refine sm rfl rfl ?_
  refine sv rfl (qen ty9 rfl rfl (show idx [48,48,49] 1=some _ from rfl)) ?_;refine s_op rfl rfl (qaV rfl rfl rfl rfl (zai (qcA qpQ)) ?_);refine sv rfl (qav rfl rfl ty22 rfl) ?_;refine sm rfl rfl ?_;refine qb7 ?_;refine qab (hK _ ?_);refine zaf ?_;refine zal 16 ?_;refine zaa rfl fun K hK=>bv rfl (qag rfl rfl qaF) ?_;refine qab (hK _ ?_);refine zak rfl (fun _=>?_) (fun hc=>absurd hc (by decide));refine zac ?_;refine zad (zaf ?_);refine zaa rfl fun K hK=>bv rfl (qaI ty22 es22 rfl rfl (qay (show idx ([[],[48,49]]:List (List UInt8)) 0=some _ from rfl))) (bv rfl (qad ty9 rfl (qaW eStr (show idx ([[],[48,49]]:List (List UInt8)) 0=some _ from rfl) (o:=0) rfl rfl)) (mv rfl rfl ?_));refine qab (hK _ ?_);refine zab rfl fun K hK=>mv rfl rfl (mv rfl rfl ?_);refine b_op rfl (qhg HV.bool (es:=[]) (k:=nS) (v:=true) (.inl rfl) qiu ty9 rfl rfl rfl rfl (by repeat first | exact trivial | refine ⟨by decide,?_⟩) ?_);refine qab (hK _ ?_);show AW _ _ _ _ _ _;refine zab rfl fun K hK=>bv rfl (qag rfl rfl qaX) (mv rfl rfl ?_);refine qab (hK _ ?_);show UW _ _ _ _ _ _ _;refine zaa rfl fun K hK=>bv rfl (qag rfl rfl qaF) ?_;refine qab (hK _ ?_);refine zak rfl (fun _=>?_) (fun hc=>absurd hc (by decide));refine zac ?_;refine zad (zaf ?_);refine zaa rfl fun K hK=>bv rfl (qaI ty22 es22 rfl rfl (qay (show idx ([[],[48,49]]:List (List UInt8)) 1=some _ from rfl))) (bv rfl (qad ty9 rfl (qaW eStr (show idx ([[],[48,49]]:List (List UInt8)) 1=some _ from rfl) (o:=0) rfl rfl)) (mv rfl rfl ?_));refine qab (hK _ ?_);refine zab rfl fun K hK=>mv rfl rfl (mv rfl rfl ?_);refine b_op rfl (qhg HV.bool (es:=[(nS,true)]) (k:=[48,49]) (v:=true) (.inl rfl) qiu ty9 rfl rfl rfl rfl (by repeat first | exact trivial | refine ⟨by decide,?_⟩) ?_);refine qab (hK _ ?_);show AW _ _ _ _ _ _;refine zab rfl fun K hK=>bv rfl (qag rfl rfl qaX) (mv rfl rfl ?_);refine qab (hK _ ?_);show UW _ _ _ _ _ _ _;refine zaa rfl fun K hK=>bv rfl (qag rfl rfl qaF) ?_;refine qab (hK _ ?_);refine zak rfl (fun hc=>absurd hc (by decide)) (fun _=>?_);refine AW.exit ?_;show UW _ _ _ _ _ _ _;refine zaa rfl fun K hK=>qgr (es:=[(nS,.bool true)]) rfl rfl rfl rfl (fun h823=>?_) (fun k824 x825 h826 h827=>?_)
  ·clear h823
   refine bv rfl (qak rfl rfl) ?_;refine qab (hK _ ?_);refine zak rfl (fun hc=>absurd hc (by decide)) (fun _=>?_);refine AW.exit ?_;exact hTu464 _ (qhb (cu464_0) (le_q rfl rfl))
  rcases List.mem_cons.1 h826 with h828 | h826
  ·cases h828
   exact absurd (by decide) h827
  cases h826
 cases h814
abbrev QR35:List ((List UInt8 × List UInt8) × HV):=[(([],[48,49]),hI 9223372036854775807),(([],[49]),hI 9223372036854775807),(([48,49],[49]),hI 9223372036854775807)]
def tabR:List (List qah × List qah):=[([],[]),([([],[48,49])],[]),([([],[49])],[([],[49])]),([([48,49],[49])],[([48,49],[49])]),([([],[49]),([],[48,49])],[([],[49])]),([([48,49],[49]),([],[48,49])],[([48,49],[49])]),([([],[48,49]),([],[49])],[([],[49])]),([([48,49],[49]),([],[49])],[([],[49]),([48,49],[49])]),([([],[48,49]),([48,49],[49])],[([48,49],[49])]),([([],[49]),([48,49],[49])],[([48,49],[49]),([],[49])]),([([48,49],[49]),([],[49]),([],[48,49])],[([],[49]),([48,49],[49])]),([([],[49]),([48,49],[49]),([],[48,49])],[([48,49],[49]),([],[49])]),([([48,49],[49]),([],[48,49]),([],[49])],[([],[49]),([48,49],[49])]),([([],[48,49]),([48,49],[49]),([],[49])],[([],[49]),([48,49],[49])]),([([],[49]),([],[48,49]),([48,49],[49])],[([48,49],[49]),([],[49])]),([([],[48,49]),([],[49]),([48,49],[49])],[([48,49],[49]),([],[49])])]
theorem qom:∀ p∈tabR,fits 32 (p.2.length+1):=by decide +kernel
theorem qpI {S L:List qah} {x:qah} (h:(S,L)∈tabR):fits 32 (L.length+List.length (α:=qah) [x]):=qom (S,L) h
theorem qpJ:∀ p∈tabR,(∀ q∈QR35,qcM (kfSS q.1)∈(p.1.map fun k=>qcM (kfSS k)))→p.2=[([],[49]),([48,49],[49])]∨p.2=[([48,49],[49]),([],[49])]:=by decide +kernel
theorem qqT:∀ p∈tabR,qcM (kfSS ([],[48,49])) ∉ (p.1.map fun k=>qcM (kfSS k))→(([],[48,49])::p.1,p.2)∈tabR∧3 - (([],[48,49])::p.1).length<3 - p.1.length:=by decide +kernel
theorem qqS {k:qah} (hk:k=([],[49])∨k=([48,49],[49])):∀ p∈tabR,qcM (kfSS k) ∉ (p.1.map fun k=>qcM (kfSS k))→(k::p.1,p.2++[k])∈tabR∧3 - (k::p.1).length<3 - p.1.length:=by
 rcases hk with rfl | rfl <;> decide +kernel
theorem keyR {k:qah} {x:HV} (h:(k,x)∈QR35):(k=([],[48,49])∨k=([],[49])∨k=([48,49],[49]))∧x=hI 9223372036854775807:=by
 simp only [QR35,List.mem_cons,Prod.mk.injEq,List.not_mem_nil,or_false] at h
 rcases h with ⟨rfl,rfl⟩ | ⟨rfl,rfl⟩ | ⟨rfl,rfl⟩ <;> simp
def E35:List ((List UInt8 × List UInt8) × HV):=[(([],[48,49]),hI 1),(([],[49]),hI 0),(([48,49],[49]),hI 0)]
set_option maxHeartbeats 6400000 in
set_option maxRecDepth 100000 in
theorem qrn {K0:HV→Heap→Prop} (hK0:∀ ver ver2 H,H=[(58002,ver2,AObj.arr 3 111 [hI 2,W35,.mp 58022 ver]),(58022,ver,AObj.gmap (gcan kfSS E35) none)]→K0 (HV.agg [hI 2,W35,.mp 58022 ver]) H):ACall Tryz.prog 58 [.agg [hI 2,W35]] [] K0:=by
 refine ACall.of_body Tryz.func58 rfl rfl (lb rfl) ?_;unfold Tryz.f58;dsimp only [qaL,Nat.reduceAdd];refine zaa rfl fun K hK=>b_op rfl (qbh rfl rfl rfl ?_);refine b_op rfl (qaC (fid:=58) (zs:=[hI 0,.v (.slice none 0 0),.v (.map none)]) 58002 rfl rfl qe5 rfl (fun v1=>?_));refine qab (hK _ ?_);refine zaa rfl fun K hK=>bv rfl (qad ty65 rfl (qao rfl (lb rfl) rfl)) ?_;refine b_op rfl (qcT (fid:=58) (fun _:Unit=>HV.bool true) 58022 rfl rfl (fun v2=>?_));refine b_to (qi1 kfSS (id:=58022) (ver:=v2) rfl ?_);refine b_op rfl (qcC (cs:=[hI 2,W35,.mp 58022 v2]) rfl (qfM qe5 rfl rfl rfl rfl) ?_);refine b_op rfl (qaC (fid:=58) (zs:=[hI 0,.v (.slice none 0 0),.v (.map none)]) 58003 rfl rfl qe5 rfl (fun v3=>?_));refine b_op rfl (qax (cs:=[hI 2,W35,.mp 58022 v2]) (zs:=[hI 2,W35,.mp 58022 v2]) rfl rfl rfl qe5 rfl rfl rfl rfl rfl ?_);refine qab (hK _ ?_);refine zaa rfl fun K hK=>b_op rfl (qaC (fid:=58) (zs:=[.v (.slice none 0 0)]) 58004 rfl rfl qaR rfl (fun v4=>?_));refine qab (hK _ ?_);refine zaa rfl fun K hK=>bv rfl (qeT rfl rfl) (mv rfl rfl ?_);refine qab (hK _ ?_);refine zad ?_;refine zaa rfl fun K hK=>bv rfl (qac qgj rfl) (bv rfl (qad ty22 rfl (qaj rfl rfl)) (bv rfl (qav rfl rfl ty22 rfl) (mv rfl rfl ?_)));refine qab (hK _ ?_);refine zaf ?_;refine zal 16 ?_;refine zaa rfl fun K hK=>bv rfl (qag rfl rfl qaF) ?_;refine qab (hK _ ?_);refine zak rfl (fun _=>?_) (fun hc=>absurd hc (by decide));refine zac ?_;refine zad (zaf ?_);refine zaa rfl fun K hK=>mv rfl rfl (mv rfl rfl ?_);refine qab (hK _ ?_);refine zaa rfl fun K hK=>bv rfl (qaf qe5 rfl rfl (qao rfl (lb rfl) rfl)) (mv rfl rfl ?_);refine b_op rfl (qat rfl rfl rfl rfl (zai (qq8 58022 v2)) ?_);refine bv rfl (qav rfl rfl qaR rfl) (mv rfl rfl ?_);refine qab (hK _ ?_);refine zaf ?_;refine zal 16 ?_;refine zaa rfl fun K hK=>bv rfl (qag rfl rfl qaF) ?_;refine qab (hK _ ?_);refine zak rfl (fun _=>?_) (fun hc=>absurd hc (by decide));refine zac ?_;refine zad (zaf ?_);refine zaa rfl fun K hK=>bv rfl (qaI qaR qfW rfl rfl (qay (show idx qcw 0=some _ from rfl))) (bv rfl (qad qaJ rfl (qgg eFirstSecond (show idx qcw 0=some _ from rfl) rfl rfl)) ?_);refine b_op rfl (qaC (fid:=58) (zs:=[.str nS,.str nS]) 58008 rfl rfl qaJ rfl (fun v11=>?_));refine b_op rfl (qax (cs:=[.str nS,.str [48,49]]) (zs:=[.str nS,.str [48,49]]) rfl rfl rfl qaJ rfl rfl rfl rfl rfl ?_);refine qab (hK _ ?_);refine zab rfl fun K hK=>mv rfl rfl (bv rfl (qaf qaJ rfl rfl (qao rfl (lb rfl) rfl)) ?_);refine b_op rfl (qdd rfl rfl rfl rfl ?_ );refine ACall.of_body Tryz.func87 rfl rfl (lb rfl) ?_;unfold Tryz.f87;dsimp only [qaL,Nat.reduceAdd];refine zaa rfl fun Kj hKj=>?_;refine b_op rfl (qbh rfl rfl rfl ?_);refine qab (hKj _ ?_);clear hKj Kj;refine zaa rfl fun Kj hKj=>?_;refine bv rfl (qal qem rfl rfl) (bv rfl (qaf qbC rfl rfl (qaj rfl rfl)) (bv rfl (qad qaJ rfl (qao rfl (lb rfl) rfl)) ?_));refine qjC qbc (k:=([],[48,49])) (e:=[]) (zh:=hI 0) rfl qbC ty3 rfl rfl rfl (by decide) rfl (by decide) ?_;refine mv rfl rfl (bv rfl (qak rfl rfl) (bv rfl (qak rfl rfl) (mv rfl rfl (mv rfl rfl ?_))));refine qab (hKj _ ?_);clear hKj Kj;refine zaa rfl fun Kj hKj=>?_;refine mv rfl rfl (bv rfl (qdX rfl) ?_);refine qab (hKj _ ?_);clear hKj Kj;refine zae rfl (fun _=>?_) (fun hc=>absurd hc (by decide));refine zaa rfl fun Kj hKj=>?_;refine bv rfl (qal qem rfl rfl) (bv rfl (qaf qbC rfl rfl (qaj rfl rfl)) (bv rfl (qad qaJ rfl (qao rfl (lb rfl) rfl)) ?_));refine qfS qbc (k:=([],[48,49])) (e:=[]) (hv:=hI 9223372036854775807) (.inl rfl) qbC rfl rfl (by decide) rfl rfl (by decide) (by repeat first | exact qa7 | refine qaK (fun _ _ _ e=>by cases e) ?_) ?_;refine qab (hKj _ ?_);clear hKj Kj;refine zab rfl fun Kj hKj=>?_;refine bv rfl (qaf qaR rfl rfl (qaj rfl rfl)) (bv rfl (qad qaJ rfl (qao rfl (lb rfl) rfl)) ?_);refine b_op rfl (qdx rfl rfl (qdp (cs:=[.str nS,.str [48,49]]) qaR qaJ rfl rfl rfl rfl rfl) ?_);refine b_op rfl (qmS (fid:=1087) eFirstSecond (m:=qcw) 1087021 rfl rfl rfl qaR qaR qaJ rfl rfl rfl rfl (by decide) (fun v12=>?_));refine b_op rfl (qax (cs:=[.ar 1087021 v12 eFirstSecond.k 0 ((qcw).length)]) (zs:=[.ar 1087021 v12 eFirstSecond.k 0 ((qcw).length)]) rfl rfl rfl qaR rfl rfl rfl rfl rfl ?_)
 refine qab (hKj _ ?_);clear hKj Kj;refine qnI (hs:=[]) (q:=.tup []) (.inl rfl) rfl rfl ?_;refine qab (hK _ ?_);show AW _ _ _ _ _ _;refine zab rfl fun K hK=>bv rfl (qag rfl rfl qaX) (mv rfl rfl ?_);refine qab (hK _ ?_);show UW _ _ _ _ _ _ _;refine zaa rfl fun K hK=>bv rfl (qag rfl rfl qaF) ?_;refine qab (hK _ ?_);refine zak rfl (fun hc=>absurd hc (by decide)) (fun _=>?_);refine AW.exit ?_;refine zab rfl fun K hK=>bv rfl (qag rfl rfl qaX) (mv rfl rfl ?_);refine qab (hK _ ?_);show UW _ _ _ _ _ _ _;refine zaa rfl fun K hK=>bv rfl (qag rfl rfl qaF) ?_;refine qab (hK _ ?_);refine zak rfl (fun _=>?_) (fun hc=>absurd hc (by decide));refine zac ?_;refine zad (zaf ?_);refine zaa rfl fun K hK=>mv rfl rfl (mv rfl rfl ?_);refine qab (hK _ ?_);refine zaa rfl fun K hK=>bv rfl (qaf qe5 rfl rfl (qao rfl (lb rfl) rfl)) (mv rfl rfl ?_);refine b_op rfl (qat rfl rfl rfl rfl (zai (qq7 58022 v2)) ?_);refine bv rfl (qav rfl rfl qaR rfl) (mv rfl rfl ?_);refine qab (hK _ ?_);refine zaf ?_;refine zal 16 ?_;refine zaa rfl fun K hK=>bv rfl (qag rfl rfl qaF) ?_;refine qab (hK _ ?_);refine zak rfl (fun hc=>absurd hc (by decide)) (fun _=>?_);refine AW.exit ?_;refine zab rfl fun K hK=>bv rfl (qag rfl rfl qaX) (mv rfl rfl ?_);refine qab (hK _ ?_);show UW _ _ _ _ _ _ _;refine zaa rfl fun K hK=>bv rfl (qag rfl rfl qaF) ?_;refine qab (hK _ ?_);refine zak rfl (fun hc=>absurd hc (by decide)) (fun _=>?_);refine AW.exit ?_;refine zaa rfl fun K hK=>b_op rfl (qcT (fid:=58) (fun _:Unit=>HV.bool true) 58044 rfl rfl (fun v13=>?_));refine b_to (qi1 kfSS (id:=58044) (ver:=v13) rfl ?_);refine b_op rfl (qcT (fid:=58) (fun _:Unit=>HV.bool true) 58045 rfl rfl (fun v14=>?_));refine b_to (qi1 kfSS (id:=58045) (ver:=v14) rfl ?_);refine mv rfl rfl (mv rfl rfl ?_);refine qab (hK _ ?_);refine zad (zaf ?_);refine zal 16 ?_;refine zad ?_;refine zaa rfl fun K hK=>bv rfl (qaf qaR rfl rfl (qaj rfl rfl)) (bv rfl (qeS rfl rfl qaR rfl rfl) (bv rfl (qag rfl rfl qbB) ?_));refine qab (hK _ ?_);refine zae rfl (fun _=>?_) (fun hc=>absurd hc (by decide));refine zac ?_;refine zaf ?_;refine zaa rfl fun K hK=>bv rfl (qaf qaR rfl rfl (qaj rfl rfl)) (bv rfl (qgO qaR qfW rfl rfl (qay (show idx qcw 0=some _ from rfl)) rfl) (bv rfl (qaf qaJ rfl rfl (qgg eFirstSecond (show idx qcw 0=some _ from rfl) rfl rfl)) ?_));refine b_op rfl (qaC (fid:=58) (zs:=[.str nS,.str nS]) 58011 rfl rfl qaJ rfl (fun v68=>?_));refine b_op rfl (qax (cs:=[.str nS,.str [48,49]]) (zs:=[.str nS,.str [48,49]]) rfl rfl rfl qaJ rfl rfl rfl rfl rfl ?_);refine qab (hK _ ?_);refine zaa rfl fun K hK=>bv rfl (qaf qaR rfl rfl (qaj rfl rfl)) ?_;refine qhA eFirstSecond (pre:=([]:List qah)) (l:=qcw) rfl rfl qaR qfW rfl rfl rfl rfl fun v69 p70 q71 h72=>?_;refine b_op rfl (qax (cs:=[q71]) (zs:=[q71]) rfl rfl rfl qaR (EmptyQ.cells h72) rfl rfl rfl rfl ?_);refine qab (hK _ ?_);refine zaa rfl fun K hK=>bv rfl (qac qj7 rfl) (bv rfl (qad ty3 rfl (qaj rfl rfl)) (mv rfl rfl ?_));refine qab (hK _ ?_);refine zaf ?_;refine zal 16 ?_;refine zaa rfl fun K hK=>bv rfl (qag rfl rfl qaF) ?_;refine qab (hK _ ?_);refine zak rfl (fun _=>?_) (fun hc=>absurd hc (by decide));refine zac ?_;refine zad (zaf ?_);refine zaa rfl fun K hK=>mv rfl rfl (mv rfl rfl ?_);refine qab (hK _ ?_);refine zao 7 follows rfl rfl fun K hK=>?_;refine sv rfl (qaf qe5 rfl rfl (qao rfl (lb rfl) rfl)) ?_;refine sv rfl (qaf qaJ rfl rfl (qao rfl (lb rfl) rfl)) ?_;refine sm rfl rfl ?_;refine sv rfl (qen ty9 rfl rfl (show idx [48,49,50,51,52,53,54,55,56,57,97,98,99,100,101,102] 0=some _ from rfl)) ?_;refine s_op rfl rfl (qaV rfl rfl rfl rfl (zai (qbx (qqE (58022,v2)))) ?_);refine sv rfl (qav rfl rfl qaR rfl) ?_;refine sm rfl rfl ?_;refine qb7 ?_;refine qab (hK _ ?_);refine zaf ?_;refine zal 16 ?_;refine zaa rfl fun K hK=>bv rfl (qag rfl rfl qaF) ?_;refine qab (hK _ ?_);refine zak rfl (fun _=>?_) (fun hc=>absurd hc (by decide));refine zac ?_;refine zad (zaf ?_);refine zaa rfl fun K hK=>bv rfl (qaI qaR qfW rfl rfl (qay (show idx qiD 0=some _ from rfl))) (bv rfl (qad qaJ rfl (qgg eFirstSecond (show idx qiD 0=some _ from rfl) rfl rfl)) ?_)
 refine b_op rfl (qaC (fid:=58) (zs:=[.str nS,.str nS]) 58014 rfl rfl qaJ rfl (fun v103=>?_));refine b_op rfl (qax (cs:=[.str nS,.str [49]]) (zs:=[.str nS,.str [49]]) rfl rfl rfl qaJ rfl rfl rfl rfl rfl ?_);refine qab (hK _ ?_);refine zaa rfl fun K hK=>mv rfl rfl (bv rfl (qaf qaJ rfl rfl (qao rfl (lb rfl) rfl)) (bv rfl (qaf qaJ rfl rfl (qao rfl (lb rfl) rfl)) ?_));refine b_op rfl (qdx rfl rfl (qdp (cs:=[.str nS,.str [48,49]]) qaR qaJ rfl rfl rfl rfl rfl) ?_);refine qq6 qbc (k:=([],[49])) (e:=[]) (zh:=HV.v (.slice none 0 0)) rfl qnz qaR rfl rfl rfl (by decide) rfl (by decide) (by repeat first | exact qa7 | refine qaK (fun _ _ _ e=>by cases e) ?_) fun v104=>?_;refine bv rfl (qak rfl rfl) ?_;refine b_op rfl (qmS (fid:=58) eFirstSecond (m:=qcw) 58075 rfl rfl rfl qaR qaR qaJ rfl rfl rfl rfl (by decide) (fun v105=>?_));refine bv rfl (qak rfl rfl) ?_;let E5:Nat × HV:=(1,.fptr [hI 2,W35] 0);let E6:Nat × HV:=(5,.fn (.func 87) [] [.ptr 58003 v3 0,.ptr 58004 v4 0]);let E7:Nat × HV:=(63,slE eFirstSecond qiD);let O8:Nat × Nat × AObj:=(58002,v1,.arr 3 111 [hI 0,.v (.slice none 0 0),.v (.map none)]);let O9:Nat × Nat × AObj:=(58022,v2,.gmap (gcan kfSS qqM) none);let O10:Nat × Nat × AObj:=(58003,v3,.arr 3 111 [hI 2,W35,.mp 58022 v2]);let O11:Nat × Nat × AObj:=(1087021,v69,.arr eFirstSecond.k 116 (eFirstSecond.E p70));let O12:Nat × Nat × AObj:=(58011,v68,.arr 2 116 [.str nS,.str [48,49]]);let O13:Nat × Nat × AObj:=(58014,v103,.arr 2 116 [.str nS,.str [49]]);let P3:ASf:=fun t H=>⟨E5::(2,.ptr 58002 v1 0)::(3,.ptr 58003 v3 0)::(4,.ptr 58004 v4 0)::E6::(9,.mp 58044 v13)::(10,.mp 58045 v14)::(11,.ptr 58011 v68 0)::t,O8::H⟩;refine qmu (qgP 2 [(58075,v105,.arr eFirstSecond.k 116 (eFirstSecond.E qcw))] (P3 [(14,.ptr 58014 v103 0),(55,hI 2),(56,hI 0),E7,(64,hI 2),(65,hI 0),(69,.mp 58044 v13),(70,.agg [.str nS,.str [49]]),(71,.v (.slice none 0 0)),(72,.agg [.str nS,.str [48,49]]),(73,slE eFirstSecond qcw),(74,.tup [.v (.slice none 0 0),.v (goInt v104)]),(75,slE eFirstSecond qcw),(76,.v (goInt v104))] [O9,O10,(58004,v4,.arr 1 113 [q71]),O11,(58044,v13,.gmap (gcan kfSS qsF) (some (v104,kfSS ([],[49])))),(58045,v14,.gmap (gcan kfSS []) none),O12,O13]) ⟨⟨_,rfl,rfl⟩,⟨_,rfl,rfl⟩,⟨_,rfl,rfl⟩,⟨_,rfl,rfl⟩,⟨_,rfl,rfl⟩,⟨_,rfl,rfl⟩,⟨_,rfl,rfl⟩,⟨_,rfl,rfl⟩,⟨_,rfl,rfl⟩,⟨_,rfl,rfl⟩,⟨_,rfl,rfl⟩,⟨_,rfl,rfl⟩,⟨_,rfl,rfl⟩,⟨_,rfl,rfl⟩,⟨_,rfl,rfl⟩,⟨_,rfl,rfl⟩,⟨_,rfl,rfl⟩,⟨_,rfl,rfl⟩,⟨_,rfl,rfl⟩,⟨_,rfl,rfl⟩,⟨_,rfl,qci eFirstSecond (l:=qcw) rfl fun _ _=>rfl⟩,⟨_,rfl,rfl⟩,trivial⟩ ⟨rfl,rfl,rfl,rfl,rfl,rfl,rfl,rfl,rfl,trivial⟩ ⟨rfl,trivial⟩ ⟨rfl,trivial⟩ ?_);refine qno qd4 (n:=v104) (k:=([],[49])) (e:=qsF) (hv:=slE eFirstSecond qcw) rfl rfl rfl rfl rfl (by repeat first | exact qa7 | refine qaK (fun _ _ _ e=>by cases e) ?_) ?_;refine qab (hK _ ?_);refine zaQ follows fun K hK F hF=>?_;refine l_go (L':=[]) hF rfl (s':=(P3 [(14,.ptr 58014 v103 0),(55,hI 2),(56,hI 0),E7,(64,hI 2),(65,hI 0)] [O9,O10,(58004,v4,.arr 1 113 [q71]),O11,(58044,v13,.gmap (gcan kfSS qqL) none),(58045,v14,.gmap (gcan kfSS []) none),O12,O13])) ?_ (le_q rfl rfl);let O14:Nat × Nat × AObj:=(58045,v14,.gmap (gcan kfSS qbp) none)
 have g106_8:F [0,1,2,3,4,5,6] (P3 [(14,.ptr 58014 v103 0),(55,hI 2),(56,hI 0),E7,(64,hI 2),(65,hI 0)] [O9,O10,(58004,v4,.arr 1 113 [q71]),O11,(58044,v13,.gmap (gcan kfSS qqL) none),O14,O12,O13]):=by
  refine qig hF rfl rfl (hK _ ?_);refine zab rfl fun K hK=>mv rfl rfl (bv rfl (qaf qaJ rfl rfl (qao rfl (lb rfl) rfl)) ?_);refine b_op rfl (qdd rfl rfl rfl rfl ?_ );refine ACall.of_body Tryz.func87 rfl rfl (lb rfl) ?_;unfold Tryz.f87;dsimp only [qaL,Nat.reduceAdd];refine zaa rfl fun Kj hKj=>?_;refine b_op rfl (qbh rfl rfl rfl ?_);refine qab (hKj _ ?_);clear hKj Kj;refine zaa rfl fun Kj hKj=>?_;refine bv rfl (qal qem rfl rfl) (bv rfl (qaf qbC rfl rfl (qaj rfl rfl)) (bv rfl (qad qaJ rfl (qao rfl (lb rfl) rfl)) ?_));refine qjC qbc (k:=([],[49])) (e:=qqM) (zh:=hI 0) rfl qbC ty3 rfl rfl rfl (by decide) rfl (by decide) ?_;refine mv rfl rfl (bv rfl (qak rfl rfl) (bv rfl (qak rfl rfl) (mv rfl rfl (mv rfl rfl ?_))));refine qab (hKj _ ?_);clear hKj Kj;refine zaa rfl fun Kj hKj=>?_;refine mv rfl rfl (bv rfl (qdX rfl) ?_);refine qab (hKj _ ?_);clear hKj Kj;refine zae rfl (fun _=>?_) (fun hc=>absurd hc (by decide));refine zaa rfl fun Kj hKj=>?_;refine bv rfl (qal qem rfl rfl) (bv rfl (qaf qbC rfl rfl (qaj rfl rfl)) (bv rfl (qad qaJ rfl (qao rfl (lb rfl) rfl)) ?_));refine qfS qbc (k:=([],[49])) (e:=qqM) (hv:=hI 9223372036854775807) (.inl rfl) qbC rfl rfl (by decide) rfl rfl (by decide) (by repeat first | exact qa7 | refine qaK (fun _ _ _ e=>by cases e) ?_) ?_;refine qab (hKj _ ?_);clear hKj Kj;refine zab rfl fun Kj hKj=>?_;refine bv rfl (qaf qaR rfl rfl (qaj rfl rfl)) (bv rfl (qad qaJ rfl (qao rfl (lb rfl) rfl)) ?_);refine b_op rfl (qdx rfl rfl (qdp (cs:=[.str nS,.str [49]]) qaR qaJ rfl rfl rfl rfl rfl) ?_);refine qpn eFirstSecond (m:=qlV) h72 rfl rfl rfl qaR qaR qaJ rfl rfl rfl rfl rfl (by decide) (by decide) fun v107 p108=>?_;refine b_op rfl (qax (cs:=[.ar 1087021 v107 eFirstSecond.k ((p108).length*eFirstSecond.k) ((qlV).length)]) (zs:=[.ar 1087021 v107 eFirstSecond.k ((p108).length*eFirstSecond.k) ((qlV).length)]) rfl rfl rfl qaR rfl rfl rfl rfl rfl ?_);refine qab (hKj _ ?_);clear hKj Kj;refine qnI (hs:=[]) (q:=.tup []) (.inl rfl) rfl rfl ?_;refine qab (hK _ ?_);show AW _ _ _ _ _ _;refine zab rfl fun K hK=>bv rfl (qag rfl rfl qaX) (mv rfl rfl ?_);refine qab (hK _ ?_);show UW _ _ _ _ _ _ _;refine zaa rfl fun K hK=>bv rfl (qag rfl rfl qaF) ?_;refine qab (hK _ ?_);refine zak rfl (fun _=>?_) (fun hc=>absurd hc (by decide));refine zac ?_;refine zad (zaf ?_);refine zaa rfl fun K hK=>bv rfl (qaI qaR qfW rfl rfl (qay (show idx qiD 1=some _ from rfl))) (bv rfl (qad qaJ rfl (qgg eFirstSecond (show idx qiD 1=some _ from rfl) rfl rfl)) ?_);refine b_op rfl (qaC (fid:=58) (zs:=[.str nS,.str nS]) 58014 rfl rfl qaJ rfl (fun v115=>?_));refine b_op rfl (qax (cs:=[.str [48,49],.str [49]]) (zs:=[.str [48,49],.str [49]]) rfl rfl rfl qaJ rfl rfl rfl rfl rfl ?_);refine qab (hK _ ?_);refine zaa rfl fun K hK=>mv rfl rfl (bv rfl (qaf qaJ rfl rfl (qao rfl (lb rfl) rfl)) (bv rfl (qaf qaJ rfl rfl (qao rfl (lb rfl) rfl)) ?_));refine b_op rfl (qdx rfl rfl (qdp (cs:=[.str nS,.str [48,49]]) qaR qaJ rfl rfl rfl rfl rfl) ?_);refine qq6 qbc (k:=([48,49],[49])) (e:=qqL) (zh:=HV.v (.slice none 0 0)) rfl qnz qaR rfl rfl rfl (by decide) rfl (by decide) (by repeat first | exact qa7 | refine qaK (fun _ _ _ e=>by cases e) ?_) fun v116=>?_;refine bv rfl (qak rfl rfl) ?_;refine b_op rfl (qmS (fid:=58) eFirstSecond (m:=qcw) 58075 rfl rfl rfl qaR qaR qaJ rfl rfl rfl rfl (by decide) (fun v117=>?_));refine bv rfl (qak rfl rfl) ?_;let O15:Nat × Nat × AObj:=(58022,v2,.gmap (gcan kfSS qqK) none);let O16:Nat × Nat × AObj:=(58004,v4,.arr 1 113 [.ar 1087021 v107 eFirstSecond.k ((p108).length*eFirstSecond.k) ((qlV).length)]);let O17:Nat × Nat × AObj:=(1087021,v107,.arr eFirstSecond.k 116 (eFirstSecond.E (p108++qlV)));let O18:Nat × Nat × AObj:=(58014,v115,.arr 2 116 [.str [48,49],.str [49]]);refine qmu (qgP 2 [(58075,v117,.arr eFirstSecond.k 116 (eFirstSecond.E qcw))] (P3 [(14,.ptr 58014 v115 0),(55,hI 2),(56,hI 0),E7,(64,hI 2),(65,hI 1),(69,.mp 58044 v13),(70,.agg [.str [48,49],.str [49]]),(71,.v (.slice none 0 0)),(72,.agg [.str nS,.str [48,49]]),(73,slE eFirstSecond qcw),(74,.tup [.v (.slice none 0 0),.v (goInt v116)]),(75,slE eFirstSecond qcw),(76,.v (goInt v116))] [O15,O10,O16,O17,(58044,v13,.gmap (gcan kfSS qsE) (some (v116,kfSS ([48,49],[49])))),O14,O12,O18]) ⟨⟨_,rfl,rfl⟩,⟨_,rfl,rfl⟩,⟨_,rfl,rfl⟩,⟨_,rfl,rfl⟩,⟨_,rfl,rfl⟩,⟨_,rfl,rfl⟩,⟨_,rfl,rfl⟩,⟨_,rfl,rfl⟩,⟨_,rfl,rfl⟩,⟨_,rfl,rfl⟩,⟨_,rfl,rfl⟩,⟨_,rfl,rfl⟩,⟨_,rfl,rfl⟩,⟨_,rfl,rfl⟩,⟨_,rfl,rfl⟩,⟨_,rfl,rfl⟩,⟨_,rfl,rfl⟩,⟨_,rfl,rfl⟩,⟨_,rfl,rfl⟩,⟨_,rfl,rfl⟩,⟨_,rfl,qci eFirstSecond (l:=qcw) rfl fun _ _=>rfl⟩,⟨_,rfl,rfl⟩,trivial⟩ ⟨rfl,rfl,rfl,rfl,rfl,rfl,rfl,rfl,rfl,trivial⟩ ⟨rfl,trivial⟩ ⟨rfl,trivial⟩ ?_)
  refine qno qd4 (n:=v116) (k:=([48,49],[49])) (e:=qsE) (hv:=slE eFirstSecond qcw) rfl rfl rfl rfl rfl (by repeat first | exact qa7 | refine qaK (fun _ _ _ e=>by cases e) ?_) ?_;refine qab (hK _ ?_);refine zaQ follows fun K hK F hF=>?_;let O19:Nat × Nat × AObj:=(58044,v13,.gmap (gcan kfSS qmz) none);refine l_go (L':=[]) hF rfl (s':=(P3 [(14,.ptr 58014 v115 0),(55,hI 2),(56,hI 0),E7,(64,hI 2),(65,hI 1)] [O15,O10,O16,O17,O19,O14,O12,O18])) ?_ (le_q rfl rfl);let O20:Nat × Nat × AObj:=(58045,v14,.gmap (gcan kfSS qfY) none)
  have g118_8:F [0,1,2,3,4,5,6] (P3 [(14,.ptr 58014 v115 0),(55,hI 2),(56,hI 0),E7,(64,hI 2),(65,hI 1)] [O15,O10,O16,O17,O19,O20,O12,O18]):=by
   refine qig hF rfl rfl (hK _ ?_);refine zab rfl fun K hK=>mv rfl rfl (bv rfl (qaf qaJ rfl rfl (qao rfl (lb rfl) rfl)) ?_);refine b_op rfl (qdd rfl rfl rfl rfl ?_ );refine ACall.of_body Tryz.func87 rfl rfl (lb rfl) ?_;unfold Tryz.f87;dsimp only [qaL,Nat.reduceAdd];refine zaa rfl fun Kj hKj=>?_;refine b_op rfl (qbh rfl rfl rfl ?_);refine qab (hKj _ ?_);clear hKj Kj;refine zaa rfl fun Kj hKj=>?_;refine bv rfl (qal qem rfl rfl) (bv rfl (qaf qbC rfl rfl (qaj rfl rfl)) (bv rfl (qad qaJ rfl (qao rfl (lb rfl) rfl)) ?_));refine qjC qbc (k:=([48,49],[49])) (e:=qqK) (zh:=hI 0) rfl qbC ty3 rfl rfl rfl (by decide) rfl (by decide) ?_;refine mv rfl rfl (bv rfl (qak rfl rfl) (bv rfl (qak rfl rfl) (mv rfl rfl (mv rfl rfl ?_))));refine qab (hKj _ ?_);clear hKj Kj;refine zaa rfl fun Kj hKj=>?_;refine mv rfl rfl (bv rfl (qdX rfl) ?_);refine qab (hKj _ ?_);clear hKj Kj;refine zae rfl (fun _=>?_) (fun hc=>absurd hc (by decide));refine zaa rfl fun Kj hKj=>?_;refine bv rfl (qal qem rfl rfl) (bv rfl (qaf qbC rfl rfl (qaj rfl rfl)) (bv rfl (qad qaJ rfl (qao rfl (lb rfl) rfl)) ?_));refine qfS qbc (k:=([48,49],[49])) (e:=qqK) (hv:=hI 9223372036854775807) (.inl rfl) qbC rfl rfl (by decide) rfl rfl (by decide) (by repeat first | exact qa7 | refine qaK (fun _ _ _ e=>by cases e) ?_) ?_;refine qab (hKj _ ?_);clear hKj Kj;refine zab rfl fun Kj hKj=>?_;refine bv rfl (qaf qaR rfl rfl (qaj rfl rfl)) (bv rfl (qad qaJ rfl (qao rfl (lb rfl) rfl)) ?_);refine b_op rfl (qdx rfl rfl (qdp (cs:=[.str [48,49],.str [49]]) qaR qaJ rfl rfl rfl rfl rfl) ?_);refine qpm eFirstSecond (pre:=p108) (l:=qlV) (m:=qn7) rfl rfl rfl qaR qaR qaJ rfl rfl rfl rfl rfl (by decide) fun v119 p120=>?_;refine b_op rfl (qax (cs:=[.ar 1087021 v119 eFirstSecond.k ((p120).length*eFirstSecond.k) ((qiD).length)]) (zs:=[.ar 1087021 v119 eFirstSecond.k ((p120).length*eFirstSecond.k) ((qiD).length)]) rfl rfl rfl qaR rfl rfl rfl rfl rfl ?_);refine qab (hKj _ ?_);clear hKj Kj;refine qnI (hs:=[]) (q:=.tup []) (.inl rfl) rfl rfl ?_;refine qab (hK _ ?_);show AW _ _ _ _ _ _;refine zab rfl fun K hK=>bv rfl (qag rfl rfl qaX) (mv rfl rfl ?_);refine qab (hK _ ?_);show UW _ _ _ _ _ _ _;refine zaa rfl fun K hK=>bv rfl (qag rfl rfl qaF) ?_;refine qab (hK _ ?_);refine zak rfl (fun hc=>absurd hc (by decide)) (fun _=>?_);refine AW.exit ?_;refine zab rfl fun K hK=>bv rfl (qag rfl rfl qaX) (mv rfl rfl ?_);refine qab (hK _ ?_);show UW _ _ _ _ _ _ _;refine zaa rfl fun K hK=>bv rfl (qag rfl rfl qaF) ?_;refine qab (hK _ ?_);refine zak rfl (fun _=>?_) (fun hc=>absurd hc (by decide));refine zac ?_;refine zad (zaf ?_);refine zaa rfl fun K hK=>mv rfl rfl (mv rfl rfl ?_);refine qab (hK _ ?_);refine zao 7 follows rfl rfl fun K hK=>?_;refine sv rfl (qaf qe5 rfl rfl (qao rfl (lb rfl) rfl)) ?_;refine sv rfl (qaf qaJ rfl rfl (qao rfl (lb rfl) rfl)) ?_;refine sm rfl rfl ?_;refine sv rfl (qen ty9 rfl rfl (show idx [48,49,50,51,52,53,54,55,56,57,97,98,99,100,101,102] 1=some _ from rfl)) ?_;refine s_op rfl rfl (qaV rfl rfl rfl rfl (zai (qbx (qqD (58022,v2)))) ?_);refine sv rfl (qav rfl rfl qaR rfl) ?_;refine sm rfl rfl ?_;refine qb7 ?_;refine qab (hK _ ?_);refine zaf ?_;refine zal 16 ?_;refine zaa rfl fun K hK=>bv rfl (qag rfl rfl qaF) ?_;refine qab (hK _ ?_);refine zak rfl (fun hc=>absurd hc (by decide)) (fun _=>?_);refine AW.exit ?_;refine zab rfl fun K hK=>bv rfl (qag rfl rfl qaX) (mv rfl rfl ?_);refine qab (hK _ ?_);show UW _ _ _ _ _ _ _;refine zaa rfl fun K hK=>bv rfl (qag rfl rfl qaF) ?_;refine qab (hK _ ?_);refine zak rfl (fun hc=>absurd hc (by decide)) (fun _=>?_);refine AW.exit ?_;show UW _ _ _ _ _ _ _;refine zad ?_;refine zaa rfl fun K hK=>bv rfl (qaf qaR rfl rfl (qaj rfl rfl)) (bv rfl (qeS rfl rfl qaR rfl rfl) (bv rfl (qag rfl rfl qbB) ?_));refine qab (hK _ ?_);refine zae rfl (fun _=>?_) (fun hc=>absurd hc (by decide));refine zac ?_;refine zaf ?_;refine zaa rfl fun K hK=>bv rfl (qaf qaR rfl rfl (qaj rfl rfl)) (bv rfl (qiE qaR qfW rfl rfl (qay (show idx qiD 0=some _ from rfl)) rfl) (bv rfl (qaf qaJ rfl rfl (qkO eFirstSecond (pre:=p120) (show idx qiD 0=some _ from rfl) rfl rfl)) ?_))
   refine b_op rfl (qaC (fid:=58) (zs:=[.str nS,.str nS]) 58011 rfl rfl qaJ rfl (fun v124=>?_));refine b_op rfl (qax (cs:=[.str nS,.str [49]]) (zs:=[.str nS,.str [49]]) rfl rfl rfl qaJ rfl rfl rfl rfl rfl ?_);refine qab (hK _ ?_);refine zaa rfl fun K hK=>bv rfl (qaf qaR rfl rfl (qaj rfl rfl)) ?_;refine qjA eFirstSecond (pre:=p120) (l:=qiD) rfl rfl qaR qfW rfl rfl rfl (show 1≤2 by decide) (fun v125 p126=>?_) (fun h1=>absurd h1 (show ¬ 2=1 by decide));refine b_op rfl (qax (cs:=[.ar 1087021 v125 eFirstSecond.k ((p126).length*eFirstSecond.k) ((qn7).length)]) (zs:=[.ar 1087021 v125 eFirstSecond.k ((p126).length*eFirstSecond.k) ((qn7).length)]) rfl rfl rfl qaR rfl rfl rfl rfl rfl ?_);refine qab (hK _ ?_);refine zaa rfl fun K hK=>bv rfl (qac qj7 rfl) (bv rfl (qad ty3 rfl (qaj rfl rfl)) (mv rfl rfl ?_));refine qab (hK _ ?_);refine zaf ?_;refine zal 16 ?_;refine zaa rfl fun K hK=>bv rfl (qag rfl rfl qaF) ?_;refine qab (hK _ ?_);refine zak rfl (fun _=>?_) (fun hc=>absurd hc (by decide));refine zac ?_;refine zad (zaf ?_);refine zaa rfl fun K hK=>mv rfl rfl (mv rfl rfl ?_);refine qab (hK _ ?_);refine zao 7 follows rfl rfl fun K hK=>?_;refine sv rfl (qaf qe5 rfl rfl (qao rfl (lb rfl) rfl)) ?_;refine sv rfl (qaf qaJ rfl rfl (qao rfl (lb rfl) rfl)) ?_;refine sm rfl rfl ?_;refine sv rfl (qen ty9 rfl rfl (show idx [48,49,50,51,52,53,54,55,56,57,97,98,99,100,101,102] 0=some _ from rfl)) ?_;refine s_op rfl rfl (qaV rfl rfl rfl rfl (zai (qbx (qqC (58022,v2)))) ?_);refine sv rfl (qav rfl rfl qaR rfl) ?_;refine sm rfl rfl ?_;refine qb7 ?_;refine qab (hK _ ?_);refine zaf ?_;refine zal 16 ?_;refine zaa rfl fun K hK=>bv rfl (qag rfl rfl qaF) ?_;refine qab (hK _ ?_);refine zak rfl (fun hc=>absurd hc (by decide)) (fun _=>?_);refine AW.exit ?_;refine zab rfl fun K hK=>bv rfl (qag rfl rfl qaX) (mv rfl rfl ?_);refine qab (hK _ ?_);show UW _ _ _ _ _ _ _;refine zaa rfl fun K hK=>bv rfl (qag rfl rfl qaF) ?_;refine qab (hK _ ?_);refine zak rfl (fun _=>?_) (fun hc=>absurd hc (by decide));refine zac ?_;refine zad (zaf ?_);refine zaa rfl fun K hK=>mv rfl rfl (mv rfl rfl ?_);refine qab (hK _ ?_);refine zao 7 follows rfl rfl fun K hK=>?_;refine sv rfl (qaf qe5 rfl rfl (qao rfl (lb rfl) rfl)) ?_;refine sv rfl (qaf qaJ rfl rfl (qao rfl (lb rfl) rfl)) ?_;refine sm rfl rfl ?_;refine sv rfl (qen ty9 rfl rfl (show idx [48,49,50,51,52,53,54,55,56,57,97,98,99,100,101,102] 1=some _ from rfl)) ?_;refine s_op rfl rfl (qaV rfl rfl rfl rfl (zai (qbx (qqB (58022,v2)))) ?_);refine sv rfl (qav rfl rfl qaR rfl) ?_;refine sm rfl rfl ?_;refine qb7 ?_;refine qab (hK _ ?_);refine zaf ?_;refine zal 16 ?_;refine zaa rfl fun K hK=>bv rfl (qag rfl rfl qaF) ?_;refine qab (hK _ ?_);refine zak rfl (fun hc=>absurd hc (by decide)) (fun _=>?_);refine AW.exit ?_;refine zab rfl fun K hK=>bv rfl (qag rfl rfl qaX) (mv rfl rfl ?_);refine qab (hK _ ?_);show UW _ _ _ _ _ _ _;refine zaa rfl fun K hK=>bv rfl (qag rfl rfl qaF) ?_;refine qab (hK _ ?_);refine zak rfl (fun hc=>absurd hc (by decide)) (fun _=>?_);refine AW.exit ?_;show UW _ _ _ _ _ _ _;refine zad ?_;refine zaa rfl fun K hK=>bv rfl (qaf qaR rfl rfl (qaj rfl rfl)) (bv rfl (qeS rfl rfl qaR rfl rfl) (bv rfl (qag rfl rfl qbB) ?_));refine qab (hK _ ?_);refine zae rfl (fun _=>?_) (fun hc=>absurd hc (by decide));refine zac ?_;refine zaf ?_;refine zaa rfl fun K hK=>bv rfl (qaf qaR rfl rfl (qaj rfl rfl)) (bv rfl (qiE qaR qfW rfl rfl (qay (show idx qn7 0=some _ from rfl)) rfl) (bv rfl (qaf qaJ rfl rfl (qkO eFirstSecond (pre:=p126) (show idx qn7 0=some _ from rfl) rfl rfl)) ?_));refine b_op rfl (qaC (fid:=58) (zs:=[.str nS,.str nS]) 58011 rfl rfl qaJ rfl (fun v132=>?_));refine b_op rfl (qax (cs:=[.str [48,49],.str [49]]) (zs:=[.str [48,49],.str [49]]) rfl rfl rfl qaJ rfl rfl rfl rfl rfl ?_);refine qab (hK _ ?_);refine zaa rfl fun K hK=>bv rfl (qaf qaR rfl rfl (qaj rfl rfl)) ?_;refine qhA eFirstSecond (pre:=p126) (l:=qn7) rfl rfl qaR qfW rfl rfl rfl rfl fun v133 p134 q135 h136=>?_;refine b_op rfl (qax (cs:=[q135]) (zs:=[q135]) rfl rfl rfl qaR (EmptyQ.cells h136) rfl rfl rfl rfl ?_)
   refine qab (hK _ ?_);refine zaa rfl fun K hK=>bv rfl (qac qj7 rfl) (bv rfl (qad ty3 rfl (qaj rfl rfl)) (mv rfl rfl ?_));refine qab (hK _ ?_);refine zaf ?_;refine zal 16 ?_;refine zaa rfl fun K hK=>bv rfl (qag rfl rfl qaF) ?_;refine qab (hK _ ?_);refine zak rfl (fun _=>?_) (fun hc=>absurd hc (by decide));refine zac ?_;refine zad (zaf ?_);refine zaa rfl fun K hK=>mv rfl rfl (mv rfl rfl ?_);refine qab (hK _ ?_);refine zao 7 follows rfl rfl fun K hK=>?_;refine sv rfl (qaf qe5 rfl rfl (qao rfl (lb rfl) rfl)) ?_;refine sv rfl (qaf qaJ rfl rfl (qao rfl (lb rfl) rfl)) ?_;refine sm rfl rfl ?_;refine sv rfl (qen ty9 rfl rfl (show idx [48,49,50,51,52,53,54,55,56,57,97,98,99,100,101,102] 0=some _ from rfl)) ?_;refine s_op rfl rfl (qaV rfl rfl rfl rfl (zai (qbx (qqA (58022,v2)))) ?_);refine sv rfl (qav rfl rfl qaR rfl) ?_;refine sm rfl rfl ?_;refine qb7 ?_;refine qab (hK _ ?_);refine zaf ?_;refine zal 16 ?_;refine zaa rfl fun K hK=>bv rfl (qag rfl rfl qaF) ?_;refine qab (hK _ ?_);refine zak rfl (fun hc=>absurd hc (by decide)) (fun _=>?_);refine AW.exit ?_;refine zab rfl fun K hK=>bv rfl (qag rfl rfl qaX) (mv rfl rfl ?_);refine qab (hK _ ?_);show UW _ _ _ _ _ _ _;refine zaa rfl fun K hK=>bv rfl (qag rfl rfl qaF) ?_;refine qab (hK _ ?_);refine zak rfl (fun _=>?_) (fun hc=>absurd hc (by decide));refine zac ?_;refine zad (zaf ?_);refine zaa rfl fun K hK=>mv rfl rfl (mv rfl rfl ?_);refine qab (hK _ ?_);refine zao 7 follows rfl rfl fun K hK=>?_;refine sv rfl (qaf qe5 rfl rfl (qao rfl (lb rfl) rfl)) ?_;refine sv rfl (qaf qaJ rfl rfl (qao rfl (lb rfl) rfl)) ?_;refine sm rfl rfl ?_;refine sv rfl (qen ty9 rfl rfl (show idx [48,49,50,51,52,53,54,55,56,57,97,98,99,100,101,102] 1=some _ from rfl)) ?_;refine s_op rfl rfl (qaV rfl rfl rfl rfl (zai (qbx (qqz (58022,v2)))) ?_);refine sv rfl (qav rfl rfl qaR rfl) ?_;refine sm rfl rfl ?_;refine qb7 ?_;refine qab (hK _ ?_);refine zaf ?_;refine zal 16 ?_;refine zaa rfl fun K hK=>bv rfl (qag rfl rfl qaF) ?_;refine qab (hK _ ?_);refine zak rfl (fun hc=>absurd hc (by decide)) (fun _=>?_);refine AW.exit ?_;refine zab rfl fun K hK=>bv rfl (qag rfl rfl qaX) (mv rfl rfl ?_);refine qab (hK _ ?_);show UW _ _ _ _ _ _ _;refine zaa rfl fun K hK=>bv rfl (qag rfl rfl qaF) ?_;refine qab (hK _ ?_);refine zak rfl (fun hc=>absurd hc (by decide)) (fun _=>?_);refine AW.exit ?_;show UW _ _ _ _ _ _ _;refine zad ?_;refine zaa rfl fun K hK=>bv rfl (qaf qaR rfl rfl (qaj rfl rfl)) ?_;refine qpl h136 rfl rfl rfl qaR rfl rfl ?_;refine bv rfl (qag rfl rfl qbB) ?_;refine qab (hK _ ?_);refine zae rfl (fun hc=>absurd hc (by decide)) (fun _=>?_);refine AW.exit ?_;refine zaa rfl fun K hK=>mv rfl rfl ?_;refine qab (hK _ ?_);refine AW.seqK fun AR hAR hTR=>?_;let O21:Nat × Nat × AObj:=(58022,v2,.gmap (gcan kfSS qqJ) none);let P4:ASf:=fun t H=>⟨(2,.ptr 58002 v1 0)::(3,.ptr 58003 v3 0)::(9,.mp 58044 v13)::(10,.mp 58045 v14)::t,O8::O10::H⟩
   have cR:∀ (v137:Nat) (rx ry:qah),(rx=([],[49])∧ry=([48,49],[49])∨rx=([48,49],[49])∧ry=([],[49]))→AR (P4 [(15,.ar 58102 v137 eFirstSecond.k 0 ((([rx,ry]:List qah)).length))] [O21,O19,O20,(58102,v137,.arr eFirstSecond.k 116 (eFirstSecond.E ([rx,ry]:List qah)))]):=by
    intro v137 rx ry hxy;refine hAR _ ?_;refine zaa rfl fun K hK=>b_op rfl (qcT (fid:=58) (fun _:Unit=>HV.bool true) 58103 rfl rfl (fun v138=>?_));refine b_to (qi1 kfSS (id:=58103) (ver:=v138) rfl ?_);refine mv rfl rfl ?_;refine qab (hK _ ?_);refine zad (zaf ?_);refine zal 16 ?_;refine zad ?_;refine zaa rfl fun K hK=>mv rfl rfl (bv rfl (qeS rfl rfl qaR rfl rfl) (bv rfl (qag rfl rfl qbB) ?_));refine qab (hK _ ?_);refine zae rfl (fun _=>?_) (fun hc=>by cases hc);refine zac ?_;refine zaf ?_;refine zaa rfl fun K hK=>mv rfl rfl (bv rfl (qgO qaR qfW rfl rfl (qay (show idx ([rx,ry]:List qah) 0=some _ from rfl)) rfl) (bv rfl (qaf qaJ rfl rfl (qgg eFirstSecond (show idx ([rx,ry]:List qah) 0=some _ from rfl) rfl rfl)) ?_));refine b_op rfl (qaC (fid:=58) (zs:=[.str nS,.str nS]) 58018 rfl rfl qaJ rfl (fun v146=>?_));refine b_op rfl (qax (cs:=[.str rx.1,.str rx.2]) (zs:=[.str rx.1,.str rx.2]) rfl rfl rfl qaJ rfl rfl rfl rfl rfl ?_);refine qab (hK _ ?_);refine zaa rfl fun K hK=>mv rfl rfl ?_;refine qjA eFirstSecond (pre:=([]:List qah)) (l:=([rx,ry]:List qah)) rfl rfl qaR qfW rfl rfl rfl (show 1≤2 by decide) (fun v147 p148=>?_) (fun h1=>absurd h1 (show ¬ 2=1 by decide));refine mv rfl rfl ?_;refine qab (hK _ ?_);refine zao 6 follows rfl rfl fun K hK=>?_;refine sv rfl (qal qem rfl rfl) ?_;refine sv rfl (qaf qbC rfl rfl (qaj rfl rfl)) ?_;refine sv rfl (qaf qaJ rfl rfl (qao rfl (lb rfl) rfl)) ?_;refine sm rfl rfl ?_;refine sv rfl (qaf qaJ rfl rfl (qao rfl (lb rfl) rfl)) ?_;refine s_op rfl rfl (qgu qbc (k:=rx) (e:=[]) (zh:=hI 0) (hv:=hI 0) rfl qbC ty3 rfl rfl rfl (by rcases hxy with ⟨rfl,rfl⟩ | ⟨rfl,rfl⟩ <;> first | rfl | decide) rfl (by decide) (by rcases hxy with ⟨rfl,rfl⟩ | ⟨rfl,rfl⟩ <;> first | rfl | decide) ?_);refine qb7 ?_;refine qfS qbc (k:=rx) (e:=qqJ) (hv:=hI 0) (.inl rfl) qbC rfl rfl (by rcases hxy with ⟨rfl,rfl⟩ | ⟨rfl,rfl⟩ <;> first | rfl | decide) rfl rfl (by decide) (by repeat first | exact qa7 | refine qaK (fun _ _ _ e=>by cases e) ?_) ?_;refine qab (hK _ ?_);refine zaa rfl fun K hK=>mv rfl rfl (bv rfl (qaf qaJ rfl rfl (qao rfl (lb rfl) rfl)) ?_);refine qkV qbc (k:=rx) (e:=qmz) (zh:=HV.v (.slice none 0 0)) (hv:=slE eFirstSecond qcw) rfl qnz qaR rfl rfl rfl (by rcases hxy with ⟨rfl,rfl⟩ | ⟨rfl,rfl⟩ <;> first | rfl | decide) rfl (by decide) (by rcases hxy with ⟨rfl,rfl⟩ | ⟨rfl,rfl⟩ <;> first | rfl | decide) ?_;refine bv rfl (qav rfl rfl qaR rfl) (mv rfl rfl ?_);refine qab (hK _ ?_);refine zaf ?_;refine zal 16 ?_;refine zaa rfl fun K hK=>bv rfl (qag rfl rfl qaF) ?_;refine qab (hK _ ?_);refine zak rfl (fun _=>?_) (fun hc=>by cases hc);refine zac ?_;refine zad (zaf ?_);refine zaa rfl fun K hK=>bv rfl (qaI qaR qfW rfl rfl (qay (show idx qcw 0=some _ from rfl))) (bv rfl (qad qaJ rfl (qgg eFirstSecond (show idx qcw 0=some _ from rfl) rfl rfl)) ?_);refine b_op rfl (qaC (fid:=58) (zs:=[.str nS,.str nS]) 58020 rfl rfl qaJ rfl (fun v151=>?_));refine b_op rfl (qax (cs:=[.str nS,.str [48,49]]) (zs:=[.str nS,.str [48,49]]) rfl rfl rfl qaJ rfl rfl rfl rfl rfl ?_);refine qab (hK _ ?_);refine zao 10 follows rfl rfl fun K hK=>?_;refine sm rfl rfl ?_;refine sv rfl (qaf qaJ rfl rfl (qao rfl (lb rfl) rfl)) ?_;refine sm rfl rfl ?_;refine sv rfl (qaf qaJ rfl rfl (qao rfl (lb rfl) rfl)) ?_;refine s_op rfl rfl (qhf qbc (k:=([],[48,49])) (e:=[]) (zh:=hI 0) rfl qbC ty3 rfl rfl rfl (by decide) rfl (by decide) ?_);refine sm rfl rfl ?_;refine sv rfl (qaf qaJ rfl rfl (qao rfl (lb rfl) rfl)) ?_;refine s_op rfl rfl (qgu qbc (k:=rx) (e:=[]) (zh:=hI 0) (hv:=hI 0) rfl qbC ty3 rfl rfl rfl (by rcases hxy with ⟨rfl,rfl⟩ | ⟨rfl,rfl⟩ <;> first | rfl | decide) rfl (by decide) (by rcases hxy with ⟨rfl,rfl⟩ | ⟨rfl,rfl⟩ <;> first | rfl | decide) ?_);refine sv rfl (qag rfl rfl qaX) ?_;refine sv rfl (qk2 rfl rfl rfl) ?_;refine qb7 ?_;refine qfS qbc (k:=([],[48,49])) (e:=[]) (hv:=hI 1) (.inl rfl) qbC rfl rfl (by decide) rfl rfl (by decide) (by repeat first | exact qa7 | refine qaK (fun _ _ _ e=>by cases e) ?_) ?_;refine qab (hK _ ?_);refine zaQ follows fun K hK F hF=>?_;let E22:Nat × HV:=(15,.ar 58102 v147 eFirstSecond.k ((p148).length*eFirstSecond.k) ((([ry]:List qah)).length))
    let E23:Nat × HV:=(120,slE eFirstSecond qcw);let O24:Nat × Nat × AObj:=(58022,v2,.gmap (gcan kfSS (gput rx (hI 0) [(([],[48,49]),hI 9223372036854775807),(([],[49]),hI 9223372036854775807),(([48,49],[49]),hI 9223372036854775807)])) none);let O25:Nat × Nat × AObj:=(58102,v147,.arr eFirstSecond.k 116 (eFirstSecond.E (p148++([ry]:List qah))));let O26:Nat × Nat × AObj:=(58103,v138,.gmap (gcan kfSS qbp) none);refine l_go (L':=[]) hF rfl (s':=(P4 [E22,(17,.mp 58103 v138),(18,.ptr 58018 v146 0),(20,.ptr 58020 v151 0),E23,(121,hI 1),(122,hI 0)] [O24,O19,O20,O25,O26,(58018,v146,.arr 2 116 [.str rx.1,.str rx.2]),(58020,v151,.arr 2 116 [.str nS,.str [48,49]])])) ?_ (le_q rfl rfl)
    have g152_8:F [0,1,2,3,4,5,6] (P4 [E22,(17,.mp 58103 v138),(18,.ptr 58018 v146 0),(20,.ptr 58020 v151 0),E23,(121,hI 1),(122,hI 0)] [O24,O19,O14,O25,O26,(58018,v146,.arr 2 116 [.str rx.1,.str rx.2]),(58020,v151,.arr 2 116 [.str nS,.str [48,49]])]):=by
     refine qig hF rfl rfl (hK _ ?_);refine zaa rfl fun K hK=>mv rfl rfl (bv rfl (qaf qaJ rfl rfl (qao rfl (lb rfl) rfl)) ?_);refine qg1 qbc (k:=([],[48,49])) (e:=qbp) (zh:=hI 0) rfl qbC ty3 rfl rfl rfl (by decide) rfl (by decide) ?_;refine bv rfl (qag rfl rfl qdT) ?_;refine qab (hK _ ?_);refine zae rfl (fun hc=>by cases hc) (fun _=>?_);refine zac ?_;refine zab rfl fun K hK=>bv rfl (qag rfl rfl qaX) (mv rfl rfl ?_);refine qab (hK _ ?_);show UW _ _ _ _ _ _ _;refine zaa rfl fun K hK=>bv rfl (qag rfl rfl qaF) ?_;refine qab (hK _ ?_);refine zak rfl (fun hc=>by cases hc) (fun _=>?_);refine AW.exit ?_;show UW _ _ _ _ _ _ _;refine zad ?_;refine zaa rfl fun K hK=>mv rfl rfl (bv rfl (qeS rfl rfl qaR rfl rfl) (bv rfl (qag rfl rfl qbB) ?_));refine qab (hK _ ?_);refine zae rfl (fun _=>?_) (fun hc=>by cases hc);refine zac ?_;refine zaf ?_;refine zaa rfl fun K hK=>mv rfl rfl (bv rfl (qiE qaR qfW rfl rfl (qay (show idx ([ry]:List qah) 0=some _ from rfl)) rfl) (bv rfl (qaf qaJ rfl rfl (qkO eFirstSecond (pre:=p148) (show idx ([ry]:List qah) 0=some _ from rfl) rfl rfl)) ?_));refine b_op rfl (qaC (fid:=58) (zs:=[.str nS,.str nS]) 58018 rfl rfl qaJ rfl (fun v166=>?_));refine b_op rfl (qax (cs:=[.str ry.1,.str ry.2]) (zs:=[.str ry.1,.str ry.2]) rfl rfl rfl qaJ rfl rfl rfl rfl rfl ?_);refine qab (hK _ ?_);refine zaa rfl fun K hK=>mv rfl rfl ?_;refine qhA eFirstSecond (pre:=p148) (l:=([ry]:List qah)) rfl rfl qaR qfW rfl rfl rfl rfl fun v167 p168 q169 h170=>?_;refine mv rfl rfl ?_;refine qab (hK _ ?_);refine zao 6 follows rfl rfl fun K hK=>?_;refine sv rfl (qal qem rfl rfl) ?_;refine sv rfl (qaf qbC rfl rfl (qaj rfl rfl)) ?_;refine sv rfl (qaf qaJ rfl rfl (qao rfl (lb rfl) rfl)) ?_;refine sm rfl rfl ?_;refine sv rfl (qaf qaJ rfl rfl (qao rfl (lb rfl) rfl)) ?_;refine s_op rfl rfl (qgu qbc (k:=ry) (e:=qbp) (zh:=hI 0) (hv:=hI 0) rfl qbC ty3 rfl rfl rfl (by rcases hxy with ⟨rfl,rfl⟩ | ⟨rfl,rfl⟩ <;> first | rfl | decide) rfl (by decide) (by rcases hxy with ⟨rfl,rfl⟩ | ⟨rfl,rfl⟩ <;> first | rfl | decide) ?_);refine qb7 ?_;refine qfS qbc (k:=ry) (e:=(gput rx (hI 0) [(([],[48,49]),hI 9223372036854775807),(([],[49]),hI 9223372036854775807),(([48,49],[49]),hI 9223372036854775807)])) (hv:=hI 0) (.inl rfl) qbC rfl rfl (by rcases hxy with ⟨rfl,rfl⟩ | ⟨rfl,rfl⟩ <;> first | rfl | decide) rfl rfl (by rcases hxy with ⟨rfl,rfl⟩ | ⟨rfl,rfl⟩ <;> first | rfl | decide) (by repeat first | exact qa7 | refine qaK (fun _ _ _ e=>by cases e) ?_) ?_;refine qab (hK _ ?_);refine zaa rfl fun K hK=>mv rfl rfl (bv rfl (qaf qaJ rfl rfl (qao rfl (lb rfl) rfl)) ?_);refine qkV qbc (k:=ry) (e:=qmz) (zh:=HV.v (.slice none 0 0)) (hv:=slE eFirstSecond qcw) rfl qnz qaR rfl rfl rfl (by rcases hxy with ⟨rfl,rfl⟩ | ⟨rfl,rfl⟩ <;> first | rfl | decide) rfl (by decide) (by rcases hxy with ⟨rfl,rfl⟩ | ⟨rfl,rfl⟩ <;> first | rfl | decide) ?_;refine bv rfl (qav rfl rfl qaR rfl) (mv rfl rfl ?_);refine qab (hK _ ?_);refine zaf ?_;refine zal 16 ?_;refine zaa rfl fun K hK=>bv rfl (qag rfl rfl qaF) ?_;refine qab (hK _ ?_);refine zak rfl (fun _=>?_) (fun hc=>by cases hc);refine zac ?_;refine zad (zaf ?_);refine zaa rfl fun K hK=>bv rfl (qaI qaR qfW rfl rfl (qay (show idx qcw 0=some _ from rfl))) (bv rfl (qad qaJ rfl (qgg eFirstSecond (show idx qcw 0=some _ from rfl) rfl rfl)) ?_);refine b_op rfl (qaC (fid:=58) (zs:=[.str nS,.str nS]) 58020 rfl rfl qaJ rfl (fun v175=>?_));refine b_op rfl (qax (cs:=[.str nS,.str [48,49]]) (zs:=[.str nS,.str [48,49]]) rfl rfl rfl qaJ rfl rfl rfl rfl rfl ?_);refine qab (hK _ ?_);refine zao 10 follows rfl rfl fun K hK=>?_;refine sm rfl rfl ?_;refine sv rfl (qaf qaJ rfl rfl (qao rfl (lb rfl) rfl)) ?_;refine sm rfl rfl ?_;refine sv rfl (qaf qaJ rfl rfl (qao rfl (lb rfl) rfl)) ?_;refine s_op rfl rfl (qhf qbc (k:=([],[48,49])) (e:=qbp) (zh:=hI 0) rfl qbC ty3 rfl rfl rfl (by decide) rfl (by decide) ?_);refine sm rfl rfl ?_;refine sv rfl (qaf qaJ rfl rfl (qao rfl (lb rfl) rfl)) ?_;refine s_op rfl rfl (qgu qbc (k:=ry) (e:=qbp) (zh:=hI 0) (hv:=hI 0) rfl qbC ty3 rfl rfl rfl (by rcases hxy with ⟨rfl,rfl⟩ | ⟨rfl,rfl⟩ <;> first | rfl | decide) rfl (by decide) (by rcases hxy with ⟨rfl,rfl⟩ | ⟨rfl,rfl⟩ <;> first | rfl | decide) ?_)
     refine sv rfl (qag rfl rfl qaX) ?_;refine sv rfl (qk2 rfl rfl rfl) ?_;refine qb7 ?_;refine qfS qbc (k:=([],[48,49])) (e:=qbp) (hv:=hI 1) (.inl rfl) qbC rfl rfl (by decide) rfl rfl (by decide) (by repeat first | exact qa7 | refine qaK (fun _ _ _ e=>by cases e) ?_) ?_;refine qab (hK _ ?_);refine zaQ follows fun K hK F hF=>?_;let O27:Nat × Nat × AObj:=(58022,v2,.gmap (gcan kfSS (gput ry (hI 0) (gput rx (hI 0) [(([],[48,49]),hI 9223372036854775807),(([],[49]),hI 9223372036854775807),(([48,49],[49]),hI 9223372036854775807)]))) none);refine l_go (L':=[]) hF rfl (s':=(P4 [(15,q169),(17,.mp 58103 v138),(18,.ptr 58018 v166 0),(20,.ptr 58020 v175 0),E23,(121,hI 1),(122,hI 0)] [O27,O19,O14,(58102,v167,.arr eFirstSecond.k 116 (eFirstSecond.E p168)),O26,(58018,v166,.arr 2 116 [.str ry.1,.str ry.2]),(58020,v175,.arr 2 116 [.str nS,.str [48,49]])])) ?_ (le_q rfl rfl)
     have g176_8:F [0,1,2,3,4,5,6] (P4 [(15,q169),(17,.mp 58103 v138),(18,.ptr 58018 v166 0),(20,.ptr 58020 v175 0),E23,(121,hI 1),(122,hI 0)] [O27,O19,(58045,v14,.gmap (gcan kfSS qkZ) none),(58102,v167,.arr eFirstSecond.k 116 (eFirstSecond.E p168)),O26,(58018,v166,.arr 2 116 [.str ry.1,.str ry.2]),(58020,v175,.arr 2 116 [.str nS,.str [48,49]])]):=by
      refine qig hF rfl rfl (hK _ ?_);refine zaa rfl fun K hK=>mv rfl rfl (bv rfl (qaf qaJ rfl rfl (qao rfl (lb rfl) rfl)) ?_);refine qg1 qbc (k:=([],[48,49])) (e:=qkZ) (zh:=hI 0) rfl qbC ty3 rfl rfl rfl (by decide) rfl (by decide) ?_;refine bv rfl (qag rfl rfl qdT) ?_;refine qab (hK _ ?_);refine zae rfl (fun _=>?_) (fun hc=>by cases hc);refine zab rfl fun K hK=>mv rfl rfl (bv rfl (qaf qaJ rfl rfl (qao rfl (lb rfl) rfl)) ?_);refine b_op rfl (qdx rfl rfl (qdp (cs:=[.str nS,.str [48,49]]) qaR qaJ rfl rfl rfl rfl rfl) ?_);refine qpn eFirstSecond (m:=qcw) h170 rfl rfl rfl qaR qaR qaJ rfl rfl rfl rfl rfl (by decide) (by decide) fun v177 p178=>?_;refine mv rfl rfl ?_;refine qab (hK _ ?_);show AW _ _ _ _ _ _;refine zab rfl fun K hK=>bv rfl (qag rfl rfl qaX) (mv rfl rfl ?_);refine qab (hK _ ?_);show UW _ _ _ _ _ _ _;refine zaa rfl fun K hK=>bv rfl (qag rfl rfl qaF) ?_;refine qab (hK _ ?_);refine zak rfl (fun hc=>by cases hc) (fun _=>?_);refine AW.exit ?_;show UW _ _ _ _ _ _ _;refine zad ?_;refine zaa rfl fun K hK=>mv rfl rfl (bv rfl (qeS rfl rfl qaR rfl rfl) (bv rfl (qag rfl rfl qbB) ?_));refine qab (hK _ ?_);refine zae rfl (fun _=>?_) (fun hc=>by cases hc);refine zac ?_;refine zaf ?_;refine zaa rfl fun K hK=>mv rfl rfl (bv rfl (qiE qaR qfW rfl rfl (qay (show idx qcw 0=some _ from rfl)) rfl) (bv rfl (qaf qaJ rfl rfl (qkO eFirstSecond (pre:=p178) (show idx qcw 0=some _ from rfl) rfl rfl)) ?_));refine b_op rfl (qaC (fid:=58) (zs:=[.str nS,.str nS]) 58018 rfl rfl qaJ rfl (fun v184=>?_));refine b_op rfl (qax (cs:=[.str nS,.str [48,49]]) (zs:=[.str nS,.str [48,49]]) rfl rfl rfl qaJ rfl rfl rfl rfl rfl ?_);refine qab (hK _ ?_);refine zaa rfl fun K hK=>mv rfl rfl ?_;refine qhA eFirstSecond (pre:=p178) (l:=qcw) rfl rfl qaR qfW rfl rfl rfl rfl fun v185 p186 q187 h188=>?_;refine mv rfl rfl ?_;refine qab (hK _ ?_);refine zao 6 follows rfl rfl fun K hK=>?_;refine sv rfl (qal qem rfl rfl) ?_;refine sv rfl (qaf qbC rfl rfl (qaj rfl rfl)) ?_;refine sv rfl (qaf qaJ rfl rfl (qao rfl (lb rfl) rfl)) ?_;refine sm rfl rfl ?_;refine sv rfl (qaf qaJ rfl rfl (qao rfl (lb rfl) rfl)) ?_;refine s_op rfl rfl (qhf qbc (k:=([],[48,49])) (e:=qbp) (zh:=hI 0) rfl qbC ty3 rfl rfl rfl (by decide) rfl (by decide) ?_);refine qb7 ?_;refine qfS qbc (k:=([],[48,49])) (e:=(gput ry (hI 0) (gput rx (hI 0) [(([],[48,49]),hI 9223372036854775807),(([],[49]),hI 9223372036854775807),(([48,49],[49]),hI 9223372036854775807)]))) (hv:=hI 1) (.inl rfl) qbC rfl rfl (by decide) rfl rfl (by rcases hxy with ⟨rfl,rfl⟩ | ⟨rfl,rfl⟩ <;> first | rfl | decide) (by repeat first | exact qa7 | refine qaK (fun _ _ _ e=>by cases e) ?_) ?_;refine qab (hK _ ?_);refine zaa rfl fun K hK=>mv rfl rfl (bv rfl (qaf qaJ rfl rfl (qao rfl (lb rfl) rfl)) ?_);refine qg1 qbc (k:=([],[48,49])) (e:=qmz) (zh:=HV.v (.slice none 0 0)) rfl qnz qaR rfl rfl rfl (by decide) rfl (by decide) ?_;refine bv rfl (qr4 rfl rfl qaR rfl) (mv rfl rfl ?_);refine qab (hK _ ?_);refine zaf ?_;refine zal 16 ?_;refine zaa rfl fun K hK=>bv rfl (qag rfl rfl qaF) ?_;refine qab (hK _ ?_);refine zak rfl (fun hc=>by cases hc) (fun _=>?_);refine AW.exit ?_;show UW _ _ _ _ _ _ _;refine zad ?_;refine zaa rfl fun K hK=>mv rfl rfl ?_;refine qpl h188 rfl rfl rfl qaR rfl rfl ?_;refine bv rfl (qag rfl rfl qbB) ?_;refine qab (hK _ ?_);refine zae rfl (fun hc=>by cases hc) (fun _=>?_);refine AW.exit ?_;refine zaa rfl fun K hK=>bv rfl (qaf qe5 rfl rfl (qao rfl (lb rfl) rfl)) ?_;refine b_op rfl (qax (cs:=[hI 2,W35,.mp 58022 v2]) (zs:=[hI 2,W35,.mp 58022 v2]) rfl rfl rfl qe5 rfl rfl rfl rfl rfl ?_);refine qab (hK _ ?_)
      obtain ⟨rfl,rfl⟩ | ⟨rfl,rfl⟩:=hxy
      ·refine AW.to (qaZ (s':=⟨[(2,.ptr 58002 v1 0)],[(58002,v1,.arr 3 111 [hI 2,W35,.mp 58022 v2]),(58022,v2,.gmap (gcan kfSS qq9) none)]⟩) (le_q rfl rfl) ?_)
       refine AW.ret ?_;refine qnI (hs:=[.agg [hI 2,W35,.mp 58022 v2]]) (q:=HV.agg [hI 2,W35,.mp 58022 v2]) (.inr rfl) (resP qe5 rfl rfl (qao rfl (lb rfl) rfl) rfl) rfl ?_;exact hK0 _ _ _ rfl
      refine AW.to (qaZ (s':=⟨[(2,.ptr 58002 v1 0)],[(58002,v1,.arr 3 111 [hI 2,W35,.mp 58022 v2]),(58022,v2,.gmap (gcan kfSS qq9) none)]⟩) (le_q rfl rfl) ?_);refine AW.ret ?_;refine qnI (hs:=[.agg [hI 2,W35,.mp 58022 v2]]) (q:=HV.agg [hI 2,W35,.mp 58022 v2]) (.inr rfl) (resP qe5 rfl rfl (qao rfl (lb rfl) rfl) rfl) rfl ?_;exact hK0 _ _ _ rfl
     let P:ASf:=fun t H=>⟨(2,.ptr 58002 v1 0)::(3,.ptr 58003 v3 0)::(9,.mp 58044 v13)::(10,.mp 58045 v14)::(15,q169)::(17,.mp 58103 v138)::(18,.ptr 58018 v166 0)::(20,.ptr 58020 v175 0)::(120,slE eFirstSecond qcw)::(121,hI 1)::(122,hI 0)::t,(58002,v1,.arr 3 111 [hI 0,.v (.slice none 0 0),.v (.map none)])::(58003,v3,.arr 3 111 [hI 2,W35,.mp 58022 v2])::(58022,v2,.gmap (gcan kfSS (gput ry (hI 0) (gput rx (hI 0) [(([],[48,49]),hI 9223372036854775807),(([],[49]),hI 9223372036854775807),(([48,49],[49]),hI 9223372036854775807)]))) none)::(58044,v13,.gmap (gcan kfSS qmz) none)::H⟩
     have g176_7:∀ (v1760401:Nat),F [0,1,2,3,4,5] (P [(136,.mp 58045 v14),(139,hI 0),(141,.v (goInt v1760401))] [(58045,v14,.gmap (gcan kfSS qbp) (some (v1760401,kfSS ([],[48,49])))),(58102,v167,.arr eFirstSecond.k 116 (eFirstSecond.E p168)),(58103,v138,.gmap (gcan kfSS qbp) none),(58018,v166,.arr 2 116 [.str ry.1,.str ry.2]),(58020,v175,.arr 2 116 [.str nS,.str [48,49]])]):=by
      intro v1760401;refine qaT hF rfl [6] rfl rfl ⟨?_,trivial⟩;refine qfh rfl rfl rfl (fun hN=>qiM hN qd4 (n:=v1760401) (k:=([],[48,49])) (e:=qbp) (hv:=hI 0) rfl rfl rfl rfl rfl (by repeat first | exact qa7 | refine qaK (fun _ _ _ e=>by cases e) ?_) ?_);exact qab (lg hF (g176_8))
     have g176_6:∀ (v1760401:Nat),F [0,1,2,4,5] (P [(136,.mp 58045 v14),(138,hI 1),(141,.v (goInt v1760401))] [(58045,v14,.gmap (gcan kfSS qbp) (some (v1760401,kfSS ([],[48,49])))),(58102,v167,.arr eFirstSecond.k 116 (eFirstSecond.E p168)),(58103,v138,.gmap (gcan kfSS qbp) none),(58018,v166,.arr 2 116 [.str ry.1,.str ry.2]),(58020,v175,.arr 2 116 [.str nS,.str [48,49]])]):=by
      intro v1760401;refine qbO (i:=3) hF rfl rfl rfl (qgJ rfl rfl rfl qfX rfl) ?_;exact lg hF (g176_7 v1760401)
     have g176_10:∀ (v1760401:Nat),F [0,1,2,3,4] (P [(136,.mp 58045 v14),(139,hI 0),(140,.tup [hI 1,.v (goInt v1760401)])] [(58045,v14,.gmap (gcan kfSS qbp) (some (v1760401,kfSS ([],[48,49])))),(58102,v167,.arr eFirstSecond.k 116 (eFirstSecond.E p168)),(58103,v138,.gmap (gcan kfSS qbp) none),(58018,v166,.arr 2 116 [.str ry.1,.str ry.2]),(58020,v175,.arr 2 116 [.str nS,.str [48,49]])]):=by
      intro v1760401;refine qbO (i:=5) hF rfl rfl rfl (qlD rfl rfl rfl) ?_;exact lg hF (g176_7 v1760401)
     have g176_5:∀ (v1760401:Nat),F [0,1,4,5] (P [(136,.mp 58045 v14),(137,.agg [.str nS,.str [48,49]]),(141,.v (goInt v1760401))] [(58045,v14,.gmap (gcan kfSS qbp) (some (v1760401,kfSS ([],[48,49])))),(58102,v167,.arr eFirstSecond.k 116 (eFirstSecond.E p168)),(58103,v138,.gmap (gcan kfSS qbp) none),(58018,v166,.arr 2 116 [.str ry.1,.str ry.2]),(58020,v175,.arr 2 116 [.str nS,.str [48,49]])]):=by
      intro v1760401;refine qaT hF rfl [2] rfl rfl ⟨?_,trivial⟩;refine qfh rfl rfl rfl (fun hN=>qgc hN qbc (k:=([],[48,49])) (e:=qbp) (zh:=hI 0) rfl qbC ty3 rfl rfl rfl (by decide) rfl (by decide) ?_);exact qab (lg hF (g176_6 v1760401))
     have g176_9:F [0,1,2,3] (P [(136,.mp 58045 v14),(137,.agg [.str nS,.str [48,49]]),(139,hI 0)] [(58045,v14,.gmap (gcan kfSS qbp) none),(58102,v167,.arr eFirstSecond.k 116 (eFirstSecond.E p168)),(58103,v138,.gmap (gcan kfSS qbp) none),(58018,v166,.arr 2 116 [.str ry.1,.str ry.2]),(58020,v175,.arr 2 116 [.str nS,.str [48,49]])]):=by
      refine qaT hF rfl [4] rfl rfl ⟨?_,trivial⟩;refine qfh rfl rfl rfl (fun hN=>qid hN qbc (k:=([],[48,49])) (e:=qbp) (zh:=hI 0) rfl qbC ty3 rfl rfl rfl (by decide) rfl (by decide) (by repeat first | exact qa7 | refine qaK (fun _ _ _ e=>by cases e) ?_) fun v1760401=>?_);exact qab (lg hF (g176_10 v1760401))
     have g176_3:F [0,1,2] (P [(136,.mp 58045 v14),(137,.agg [.str nS,.str [48,49]]),(138,hI 1)] [(58045,v14,.gmap (gcan kfSS qbp) none),(58102,v167,.arr eFirstSecond.k 116 (eFirstSecond.E p168)),(58103,v138,.gmap (gcan kfSS qbp) none),(58018,v166,.arr 2 116 [.str ry.1,.str ry.2]),(58020,v175,.arr 2 116 [.str nS,.str [48,49]])]):=by
      refine qbO (i:=3) hF rfl rfl rfl (qgJ rfl rfl rfl qfX rfl) ?_;exact lg hF (g176_9)
     have g176_4:∀ (v1760401:Nat),F [0,1,4] (P [(136,.mp 58045 v14),(137,.agg [.str nS,.str [48,49]]),(140,.tup [hI 1,.v (goInt v1760401)])] [(58045,v14,.gmap (gcan kfSS qbp) (some (v1760401,kfSS ([],[48,49])))),(58102,v167,.arr eFirstSecond.k 116 (eFirstSecond.E p168)),(58103,v138,.gmap (gcan kfSS qbp) none),(58018,v166,.arr 2 116 [.str ry.1,.str ry.2]),(58020,v175,.arr 2 116 [.str nS,.str [48,49]])]):=by
      intro v1760401;refine qbO (i:=5) hF rfl rfl rfl (qlD rfl rfl rfl) ?_;exact lg hF (g176_5 v1760401)
     have g176_2:F [0,1] (P [(136,.mp 58045 v14),(137,.agg [.str nS,.str [48,49]])] [(58045,v14,.gmap (gcan kfSS qbp) none),(58102,v167,.arr eFirstSecond.k 116 (eFirstSecond.E p168)),(58103,v138,.gmap (gcan kfSS qbp) none),(58018,v166,.arr 2 116 [.str ry.1,.str ry.2]),(58020,v175,.arr 2 116 [.str nS,.str [48,49]])]):=by
      refine qaT hF rfl [2,4] rfl rfl ⟨?_,?_,trivial⟩
      ·refine qfh rfl rfl rfl (fun hN=>qgc hN qbc (k:=([],[48,49])) (e:=qbp) (zh:=hI 0) rfl qbC ty3 rfl rfl rfl (by decide) rfl (by decide) ?_)
       exact qab (lg hF (g176_3))
      refine qfh rfl rfl rfl (fun hN=>qid hN qbc (k:=([],[48,49])) (e:=qbp) (zh:=hI 0) rfl qbC ty3 rfl rfl rfl (by decide) rfl (by decide) (by repeat first | exact qa7 | refine qaK (fun _ _ _ e=>by cases e) ?_) fun v1760401=>?_);exact qab (lg hF (g176_4 v1760401))
     have g176_1:F [0] (P [(136,.mp 58045 v14)] [(58045,v14,.gmap (gcan kfSS qbp) none),(58102,v167,.arr eFirstSecond.k 116 (eFirstSecond.E p168)),(58103,v138,.gmap (gcan kfSS qbp) none),(58018,v166,.arr 2 116 [.str ry.1,.str ry.2]),(58020,v175,.arr 2 116 [.str nS,.str [48,49]])]):=by
      refine qaT hF rfl [1] rfl rfl ⟨?_,trivial⟩;exact l_ov rfl rfl rfl rfl (qaf qaJ rfl rfl (qao rfl (lb rfl) rfl)) (lg hF (g176_2))
     have g176_0:F [] (P [] [(58045,v14,.gmap (gcan kfSS qbp) none),(58102,v167,.arr eFirstSecond.k 116 (eFirstSecond.E p168)),(58103,v138,.gmap (gcan kfSS qbp) none),(58018,v166,.arr 2 116 [.str ry.1,.str ry.2]),(58020,v175,.arr 2 116 [.str nS,.str [48,49]])]):=by
      refine qfR (i:=0) hF rfl rfl rfl (qaE rfl rfl).2 ?_;exact lg hF (g176_1)
     exact g176_0
    let P:ASf:=fun t H=>⟨(2,.ptr 58002 v1 0)::(3,.ptr 58003 v3 0)::(9,.mp 58044 v13)::(10,.mp 58045 v14)::(15,.ar 58102 v147 eFirstSecond.k ((p148).length*eFirstSecond.k) ((([ry]:List qah)).length))::(17,.mp 58103 v138)::(18,.ptr 58018 v146 0)::(20,.ptr 58020 v151 0)::(120,slE eFirstSecond qcw)::(121,hI 1)::(122,hI 0)::t,(58002,v1,.arr 3 111 [hI 0,.v (.slice none 0 0),.v (.map none)])::(58003,v3,.arr 3 111 [hI 2,W35,.mp 58022 v2])::(58022,v2,.gmap (gcan kfSS (gput rx (hI 0) [(([],[48,49]),hI 9223372036854775807),(([],[49]),hI 9223372036854775807),(([48,49],[49]),hI 9223372036854775807)])) none)::(58044,v13,.gmap (gcan kfSS qmz) none)::H⟩
    have g152_7:∀ (v1520401:Nat),F [0,1,2,3,4,5] (P [(136,.mp 58045 v14),(139,hI 1),(141,.v (goInt v1520401))] [(58045,v14,.gmap (gcan kfSS qfY) (some (v1520401,kfSS ([],[48,49])))),(58102,v147,.arr eFirstSecond.k 116 (eFirstSecond.E (p148++([ry]:List qah)))),(58103,v138,.gmap (gcan kfSS qbp) none),(58018,v146,.arr 2 116 [.str rx.1,.str rx.2]),(58020,v151,.arr 2 116 [.str nS,.str [48,49]])]):=by
     intro v1520401;refine qaT hF rfl [6] rfl rfl ⟨?_,trivial⟩;refine qfh rfl rfl rfl (fun hN=>qiM hN qd4 (n:=v1520401) (k:=([],[48,49])) (e:=qfY) (hv:=hI 1) rfl rfl rfl rfl rfl (by repeat first | exact qa7 | refine qaK (fun _ _ _ e=>by cases e) ?_) ?_);exact qab (lg hF (g152_8))
    have g152_6:∀ (v1520401:Nat),F [0,1,2,4,5] (P [(136,.mp 58045 v14),(138,hI 2),(141,.v (goInt v1520401))] [(58045,v14,.gmap (gcan kfSS qfY) (some (v1520401,kfSS ([],[48,49])))),(58102,v147,.arr eFirstSecond.k 116 (eFirstSecond.E (p148++([ry]:List qah)))),(58103,v138,.gmap (gcan kfSS qbp) none),(58018,v146,.arr 2 116 [.str rx.1,.str rx.2]),(58020,v151,.arr 2 116 [.str nS,.str [48,49]])]):=by
     intro v1520401;refine qbO (i:=3) hF rfl rfl rfl (qgJ rfl rfl rfl qfX rfl) ?_;exact lg hF (g152_7 v1520401)
    have g152_10:∀ (v1520401:Nat),F [0,1,2,3,4] (P [(136,.mp 58045 v14),(139,hI 1),(140,.tup [hI 2,.v (goInt v1520401)])] [(58045,v14,.gmap (gcan kfSS qfY) (some (v1520401,kfSS ([],[48,49])))),(58102,v147,.arr eFirstSecond.k 116 (eFirstSecond.E (p148++([ry]:List qah)))),(58103,v138,.gmap (gcan kfSS qbp) none),(58018,v146,.arr 2 116 [.str rx.1,.str rx.2]),(58020,v151,.arr 2 116 [.str nS,.str [48,49]])]):=by
     intro v1520401;refine qbO (i:=5) hF rfl rfl rfl (qlD rfl rfl rfl) ?_;exact lg hF (g152_7 v1520401)
    have g152_5:∀ (v1520401:Nat),F [0,1,4,5] (P [(136,.mp 58045 v14),(137,.agg [.str nS,.str [48,49]]),(141,.v (goInt v1520401))] [(58045,v14,.gmap (gcan kfSS qfY) (some (v1520401,kfSS ([],[48,49])))),(58102,v147,.arr eFirstSecond.k 116 (eFirstSecond.E (p148++([ry]:List qah)))),(58103,v138,.gmap (gcan kfSS qbp) none),(58018,v146,.arr 2 116 [.str rx.1,.str rx.2]),(58020,v151,.arr 2 116 [.str nS,.str [48,49]])]):=by
     intro v1520401;refine qaT hF rfl [2] rfl rfl ⟨?_,trivial⟩;refine qfh rfl rfl rfl (fun hN=>qgc hN qbc (k:=([],[48,49])) (e:=qfY) (zh:=hI 0) rfl qbC ty3 rfl rfl rfl (by decide) rfl (by decide) ?_);exact qab (lg hF (g152_6 v1520401))
    have g152_9:F [0,1,2,3] (P [(136,.mp 58045 v14),(137,.agg [.str nS,.str [48,49]]),(139,hI 1)] [(58045,v14,.gmap (gcan kfSS qfY) none),(58102,v147,.arr eFirstSecond.k 116 (eFirstSecond.E (p148++([ry]:List qah)))),(58103,v138,.gmap (gcan kfSS qbp) none),(58018,v146,.arr 2 116 [.str rx.1,.str rx.2]),(58020,v151,.arr 2 116 [.str nS,.str [48,49]])]):=by
     refine qaT hF rfl [4] rfl rfl ⟨?_,trivial⟩;refine qfh rfl rfl rfl (fun hN=>qid hN qbc (k:=([],[48,49])) (e:=qfY) (zh:=hI 0) rfl qbC ty3 rfl rfl rfl (by decide) rfl (by decide) (by repeat first | exact qa7 | refine qaK (fun _ _ _ e=>by cases e) ?_) fun v1520401=>?_);exact qab (lg hF (g152_10 v1520401))
    have g152_3:F [0,1,2] (P [(136,.mp 58045 v14),(137,.agg [.str nS,.str [48,49]]),(138,hI 2)] [(58045,v14,.gmap (gcan kfSS qfY) none),(58102,v147,.arr eFirstSecond.k 116 (eFirstSecond.E (p148++([ry]:List qah)))),(58103,v138,.gmap (gcan kfSS qbp) none),(58018,v146,.arr 2 116 [.str rx.1,.str rx.2]),(58020,v151,.arr 2 116 [.str nS,.str [48,49]])]):=by
     refine qbO (i:=3) hF rfl rfl rfl (qgJ rfl rfl rfl qfX rfl) ?_;exact lg hF (g152_9)
    have g152_4:∀ (v1520401:Nat),F [0,1,4] (P [(136,.mp 58045 v14),(137,.agg [.str nS,.str [48,49]]),(140,.tup [hI 2,.v (goInt v1520401)])] [(58045,v14,.gmap (gcan kfSS qfY) (some (v1520401,kfSS ([],[48,49])))),(58102,v147,.arr eFirstSecond.k 116 (eFirstSecond.E (p148++([ry]:List qah)))),(58103,v138,.gmap (gcan kfSS qbp) none),(58018,v146,.arr 2 116 [.str rx.1,.str rx.2]),(58020,v151,.arr 2 116 [.str nS,.str [48,49]])]):=by
     intro v1520401;refine qbO (i:=5) hF rfl rfl rfl (qlD rfl rfl rfl) ?_;exact lg hF (g152_5 v1520401)
    have g152_2:F [0,1] (P [(136,.mp 58045 v14),(137,.agg [.str nS,.str [48,49]])] [(58045,v14,.gmap (gcan kfSS qfY) none),(58102,v147,.arr eFirstSecond.k 116 (eFirstSecond.E (p148++([ry]:List qah)))),(58103,v138,.gmap (gcan kfSS qbp) none),(58018,v146,.arr 2 116 [.str rx.1,.str rx.2]),(58020,v151,.arr 2 116 [.str nS,.str [48,49]])]):=by
     refine qaT hF rfl [2,4] rfl rfl ⟨?_,?_,trivial⟩
     ·refine qfh rfl rfl rfl (fun hN=>qgc hN qbc (k:=([],[48,49])) (e:=qfY) (zh:=hI 0) rfl qbC ty3 rfl rfl rfl (by decide) rfl (by decide) ?_)
      exact qab (lg hF (g152_3))
     refine qfh rfl rfl rfl (fun hN=>qid hN qbc (k:=([],[48,49])) (e:=qfY) (zh:=hI 0) rfl qbC ty3 rfl rfl rfl (by decide) rfl (by decide) (by repeat first | exact qa7 | refine qaK (fun _ _ _ e=>by cases e) ?_) fun v1520401=>?_);exact qab (lg hF (g152_4 v1520401))
    have g152_1:F [0] (P [(136,.mp 58045 v14)] [(58045,v14,.gmap (gcan kfSS qfY) none),(58102,v147,.arr eFirstSecond.k 116 (eFirstSecond.E (p148++([ry]:List qah)))),(58103,v138,.gmap (gcan kfSS qbp) none),(58018,v146,.arr 2 116 [.str rx.1,.str rx.2]),(58020,v151,.arr 2 116 [.str nS,.str [48,49]])]):=by
     refine qaT hF rfl [1] rfl rfl ⟨?_,trivial⟩;exact l_ov rfl rfl rfl rfl (qaf qaJ rfl rfl (qao rfl (lb rfl) rfl)) (lg hF (g152_2))
    have g152_0:F [] (P [] [(58045,v14,.gmap (gcan kfSS qfY) none),(58102,v147,.arr eFirstSecond.k 116 (eFirstSecond.E (p148++([ry]:List qah)))),(58103,v138,.gmap (gcan kfSS qbp) none),(58018,v146,.arr 2 116 [.str rx.1,.str rx.2]),(58020,v151,.arr 2 116 [.str nS,.str [48,49]])]):=by
     refine qfR (i:=0) hF rfl rfl rfl (qaE rfl rfl).2 ?_;exact lg hF (g152_1)
    exact g152_0
   refine zaa rfl fun K hK=>bv rfl (qal qem rfl rfl) (bv rfl (qaf qbC rfl rfl (qaj rfl rfl)) ?_);refine qqw 58090 rfl qbC rfl rfl (by decide) fun v189=>?_;refine qab (hK _ ?_);refine AW.to (qha 58102 15 eFirstSecond.k 116 rfl fun v190=>?_);refine AW.to (qaZ (s':=(P4 [(15,.ar 58102 v190 eFirstSecond.k 0 ([]:List qah).length),(90,HV.it 58090 v189)] [O21,O19,O20,(58102,v190,.arr eFirstSecond.k 116 (eFirstSecond.E ([]:List qah))),(58090,v189,.iter 58022 v2 (([]:List qah).map fun k=>qcM (kfSS k)) (!([]:List qah).isEmpty))])) (le_q rfl rfl) ?_);refine zaf ?_;refine zal 8 ?_;refine UW.inv (α:=Nat × List qah × List qah) (fun a=>(P4 [(15,.ar 58102 a.1 eFirstSecond.k 0 a.2.2.length),(90,HV.it 58090 v189)] [O21,O19,O20,(58102,a.1,.arr eFirstSecond.k 116 (eFirstSecond.E a.2.2)),(58090,v189,.iter 58022 v2 (a.2.1.map fun k=>qcM (kfSS k)) (!a.2.1.isEmpty))])) (fun a=>a.2∈tabR) (fun a=>3 - a.2.1.length) ?_ 8 (v190,[],[]) (show (([],[]):List qah × List qah)∈tabR by decide) (show 3 - 0<8 by decide)
   rintro ⟨w,S,L⟩ hP A2 hA2 hT2
   show AW _ _ _ _ _ (P4 [(15,.ar 58102 w eFirstSecond.k 0 L.length),(90,HV.it 58090 v189)] [O21,O19,O20,(58102,w,.arr eFirstSecond.k 116 (eFirstSecond.E L)),(58090,v189,.iter 58022 v2 (S.map fun k=>qcM (kfSS k)) (!S.isEmpty))]);refine zaa rfl fun K hK=>qrV qkP qhY qd4 (e:=QR35) rfl rfl rfl rfl (by decide) (fun h1=>?_) (fun rk xv hm hn=>?_)
   ·refine bv rfl (qak rfl rfl) ?_
    refine qab (hK _ ?_);refine zak rfl (fun hc=>absurd hc (by decide)) (fun _=>?_);refine AW.exit ?_
    obtain e | e:=qpJ (S,L) hP h1
    ·cases e
     exact hTR _ (qhb (cR w _ _ (.inl ⟨rfl,rfl⟩)) (le_q rfl rfl))
    cases e;exact hTR _ (qhb (cR w _ _ (.inr ⟨rfl,rfl⟩)) (le_q rfl rfl))
   obtain ⟨hk,rfl⟩:=keyR hm
   obtain rfl | hk:=hk
   ·refine bv rfl (qak rfl rfl) ?_
    refine qab (hK _ ?_);refine zak rfl (fun _=>?_) (fun hc=>absurd hc (by decide));refine zac ?_;refine zaf ?_;refine zaa rfl fun K hK=>qnn (k:=([],[48,49])) (e:=qqJ) (v:=hI 9223372036854775807) qkP qhY qd4 rfl rfl rfl rfl (by decide) rfl ?_;refine bv rfl (qak rfl rfl) ?_;refine b_op rfl (qaC (fid:=58) (zs:=[.str nS,.str nS]) 58016 rfl rfl qaJ rfl (fun v191=>?_));refine b_op rfl (qax (cs:=[.str nS,.str [48,49]]) (zs:=[.str nS,.str [48,49]]) rfl rfl rfl qaJ rfl rfl rfl rfl rfl ?_);refine qab (hK _ ?_);refine zaa rfl fun K hK=>mv rfl rfl (bv rfl (qaf qaJ rfl rfl (qao rfl (lb rfl) rfl)) ?_);refine qg1 qbc (k:=([],[48,49])) (e:=qfY) (zh:=hI 0) rfl qbC ty3 rfl rfl rfl (by decide) rfl (by decide) ?_;refine bv rfl (qag rfl rfl qdT) ?_;refine qab (hK _ ?_);refine zae rfl (fun hc=>absurd hc (by decide)) (fun _=>?_);refine zac ?_;exact hT2 _ (qhb (hA2 (w,([],[48,49])::S,L) (qqT _ hP hn).1 (qqT _ hP hn).2) (le_q rfl rfl))
   refine bv rfl (qak rfl rfl) ?_;refine qab (hK _ ?_);refine zak rfl (fun _=>?_) (fun hc=>absurd hc (by decide));refine zac ?_;refine zaf ?_;refine zaa rfl fun K hK=>qnn (k:=rk) (e:=qqJ) (v:=hI 9223372036854775807) qkP qhY qd4 rfl rfl rfl rfl (by decide) (by rcases hk with rfl | rfl <;> first | rfl | decide) ?_;refine bv rfl (qak rfl rfl) ?_;refine b_op rfl (qaC (fid:=58) (zs:=[.str nS,.str nS]) 58016 rfl rfl qaJ rfl (fun v192=>?_));refine b_op rfl (qax (cs:=[.str rk.1,.str rk.2]) (zs:=[.str rk.1,.str rk.2]) rfl rfl rfl qaJ rfl rfl rfl rfl rfl ?_);refine qab (hK _ ?_);refine zaa rfl fun K hK=>mv rfl rfl (bv rfl (qaf qaJ rfl rfl (qao rfl (lb rfl) rfl)) ?_);refine qkV qbc (k:=rk) (e:=qfY) (zh:=hI 0) (hv:=hI 0) rfl qbC ty3 rfl rfl rfl (by rcases hk with rfl | rfl <;> first | rfl | decide) rfl (by decide) (by rcases hk with rfl | rfl <;> first | rfl | decide) ?_;refine bv rfl (qag rfl rfl qdT) ?_;refine qab (hK _ ?_);refine zae rfl (fun _=>?_) (fun hc=>absurd hc (by decide));refine zab rfl fun K hK=>mv rfl rfl (bv rfl (qaf qaJ rfl rfl (qao rfl (lb rfl) rfl)) ?_);refine b_op rfl (qdx rfl rfl (qdp (cs:=[.str rk.1,.str rk.2]) qaR qaJ rfl rfl rfl rfl rfl) ?_);refine b_op rfl (qeF eFirstSecond (l:=L) (m:=([rk]:List qah)) rfl rfl qaR qaR qaJ rfl rfl rfl rfl rfl (qpI hP) (fun v193=>?_));refine mv rfl rfl ?_;refine qab (hK _ ?_);exact hT2 _ (qhb (hA2 (v193,rk::S,L++[rk]) (qqS hk _ hP hn).1 (qqS hk _ hP hn).2) (le_q rfl rfl))
  let P:ASf:=fun t H=>⟨(1,.fptr [hI 2,W35] 0)::(2,.ptr 58002 v1 0)::(3,.ptr 58003 v3 0)::(4,.ptr 58004 v4 0)::(5,.fn (.func 87) [] [.ptr 58003 v3 0,.ptr 58004 v4 0])::(9,.mp 58044 v13)::(10,.mp 58045 v14)::(11,.ptr 58011 v68 0)::(14,.ptr 58014 v115 0)::(55,hI 2)::(56,hI 0)::(63,slE eFirstSecond qiD)::(64,hI 2)::(65,hI 1)::t,(58002,v1,.arr 3 111 [hI 0,.v (.slice none 0 0),.v (.map none)])::(58022,v2,.gmap (gcan kfSS qqK) none)::(58003,v3,.arr 3 111 [hI 2,W35,.mp 58022 v2])::(58004,v4,.arr 1 113 [.ar 1087021 v107 eFirstSecond.k ((p108).length*eFirstSecond.k) ((qlV).length)])::(1087021,v107,.arr eFirstSecond.k 116 (eFirstSecond.E (p108++qlV)))::(58044,v13,.gmap (gcan kfSS qmz) none)::H⟩
  have g118_7:∀ (v1180401:Nat),F [0,1,2,3,4,5] (P [(77,.mp 58045 v14),(80,hI 2),(82,.v (goInt v1180401))] [(58045,v14,.gmap (gcan kfSS qbp) (some (v1180401,kfSS ([],[48,49])))),(58011,v68,.arr 2 116 [.str nS,.str [48,49]]),(58014,v115,.arr 2 116 [.str [48,49],.str [49]])]):=by
   intro v1180401;refine qaT hF rfl [6] rfl rfl ⟨?_,trivial⟩;refine qfh rfl rfl rfl (fun hN=>qiM hN qd4 (n:=v1180401) (k:=([],[48,49])) (e:=qbp) (hv:=hI 2) rfl rfl rfl rfl rfl (by repeat first | exact qa7 | refine qaK (fun _ _ _ e=>by cases e) ?_) ?_);exact qab (lg hF (g118_8))
  have g118_6:∀ (v1180401:Nat),F [0,1,2,4,5] (P [(77,.mp 58045 v14),(79,hI 1),(82,.v (goInt v1180401))] [(58045,v14,.gmap (gcan kfSS qbp) (some (v1180401,kfSS ([],[48,49])))),(58011,v68,.arr 2 116 [.str nS,.str [48,49]]),(58014,v115,.arr 2 116 [.str [48,49],.str [49]])]):=by
   intro v1180401;refine qbO (i:=3) hF rfl rfl rfl (qgJ rfl rfl rfl qaX rfl) ?_;exact lg hF (g118_7 v1180401)
  have g118_10:∀ (v1180401:Nat),F [0,1,2,3,4] (P [(77,.mp 58045 v14),(80,hI 2),(81,.tup [hI 1,.v (goInt v1180401)])] [(58045,v14,.gmap (gcan kfSS qbp) (some (v1180401,kfSS ([],[48,49])))),(58011,v68,.arr 2 116 [.str nS,.str [48,49]]),(58014,v115,.arr 2 116 [.str [48,49],.str [49]])]):=by
   intro v1180401;refine qbO (i:=5) hF rfl rfl rfl (qlD rfl rfl rfl) ?_;exact lg hF (g118_7 v1180401)
  have g118_5:∀ (v1180401:Nat),F [0,1,4,5] (P [(77,.mp 58045 v14),(78,.agg [.str nS,.str [48,49]]),(82,.v (goInt v1180401))] [(58045,v14,.gmap (gcan kfSS qbp) (some (v1180401,kfSS ([],[48,49])))),(58011,v68,.arr 2 116 [.str nS,.str [48,49]]),(58014,v115,.arr 2 116 [.str [48,49],.str [49]])]):=by
   intro v1180401;refine qaT hF rfl [2] rfl rfl ⟨?_,trivial⟩;refine qfh rfl rfl rfl (fun hN=>qgc hN qbc (k:=([],[48,49])) (e:=qbp) (zh:=hI 0) rfl qbC ty3 rfl rfl rfl (by decide) rfl (by decide) ?_);exact qab (lg hF (g118_6 v1180401))
  have g118_9:F [0,1,2,3] (P [(77,.mp 58045 v14),(78,.agg [.str nS,.str [48,49]]),(80,hI 2)] [(58045,v14,.gmap (gcan kfSS qbp) none),(58011,v68,.arr 2 116 [.str nS,.str [48,49]]),(58014,v115,.arr 2 116 [.str [48,49],.str [49]])]):=by
   refine qaT hF rfl [4] rfl rfl ⟨?_,trivial⟩;refine qfh rfl rfl rfl (fun hN=>qid hN qbc (k:=([],[48,49])) (e:=qbp) (zh:=hI 0) rfl qbC ty3 rfl rfl rfl (by decide) rfl (by decide) (by repeat first | exact qa7 | refine qaK (fun _ _ _ e=>by cases e) ?_) fun v1180401=>?_);exact qab (lg hF (g118_10 v1180401))
  have g118_3:F [0,1,2] (P [(77,.mp 58045 v14),(78,.agg [.str nS,.str [48,49]]),(79,hI 1)] [(58045,v14,.gmap (gcan kfSS qbp) none),(58011,v68,.arr 2 116 [.str nS,.str [48,49]]),(58014,v115,.arr 2 116 [.str [48,49],.str [49]])]):=by
   refine qbO (i:=3) hF rfl rfl rfl (qgJ rfl rfl rfl qaX rfl) ?_;exact lg hF (g118_9)
  have g118_4:∀ (v1180401:Nat),F [0,1,4] (P [(77,.mp 58045 v14),(78,.agg [.str nS,.str [48,49]]),(81,.tup [hI 1,.v (goInt v1180401)])] [(58045,v14,.gmap (gcan kfSS qbp) (some (v1180401,kfSS ([],[48,49])))),(58011,v68,.arr 2 116 [.str nS,.str [48,49]]),(58014,v115,.arr 2 116 [.str [48,49],.str [49]])]):=by
   intro v1180401;refine qbO (i:=5) hF rfl rfl rfl (qlD rfl rfl rfl) ?_;exact lg hF (g118_5 v1180401)
  have g118_2:F [0,1] (P [(77,.mp 58045 v14),(78,.agg [.str nS,.str [48,49]])] [(58045,v14,.gmap (gcan kfSS qbp) none),(58011,v68,.arr 2 116 [.str nS,.str [48,49]]),(58014,v115,.arr 2 116 [.str [48,49],.str [49]])]):=by
   refine qaT hF rfl [2,4] rfl rfl ⟨?_,?_,trivial⟩
   ·refine qfh rfl rfl rfl (fun hN=>qgc hN qbc (k:=([],[48,49])) (e:=qbp) (zh:=hI 0) rfl qbC ty3 rfl rfl rfl (by decide) rfl (by decide) ?_)
    exact qab (lg hF (g118_3))
   refine qfh rfl rfl rfl (fun hN=>qid hN qbc (k:=([],[48,49])) (e:=qbp) (zh:=hI 0) rfl qbC ty3 rfl rfl rfl (by decide) rfl (by decide) (by repeat first | exact qa7 | refine qaK (fun _ _ _ e=>by cases e) ?_) fun v1180401=>?_);exact qab (lg hF (g118_4 v1180401))
  have g118_1:F [0] (P [(77,.mp 58045 v14)] [(58045,v14,.gmap (gcan kfSS qbp) none),(58011,v68,.arr 2 116 [.str nS,.str [48,49]]),(58014,v115,.arr 2 116 [.str [48,49],.str [49]])]):=by
   refine qaT hF rfl [1] rfl rfl ⟨?_,trivial⟩;exact l_ov rfl rfl rfl rfl (qaf qaJ rfl rfl (qao rfl (lb rfl) rfl)) (lg hF (g118_2))
  have g118_0:F [] (P [] [(58045,v14,.gmap (gcan kfSS qbp) none),(58011,v68,.arr 2 116 [.str nS,.str [48,49]]),(58014,v115,.arr 2 116 [.str [48,49],.str [49]])]):=by
   refine qfR (i:=0) hF rfl rfl rfl (qaE rfl rfl).2 ?_;exact lg hF (g118_1)
  exact g118_0
 let P:ASf:=fun t H=>⟨(1,.fptr [hI 2,W35] 0)::(2,.ptr 58002 v1 0)::(3,.ptr 58003 v3 0)::(4,.ptr 58004 v4 0)::(5,.fn (.func 87) [] [.ptr 58003 v3 0,.ptr 58004 v4 0])::(9,.mp 58044 v13)::(10,.mp 58045 v14)::(11,.ptr 58011 v68 0)::(14,.ptr 58014 v103 0)::(55,hI 2)::(56,hI 0)::(63,slE eFirstSecond qiD)::(64,hI 2)::(65,hI 0)::t,(58002,v1,.arr 3 111 [hI 0,.v (.slice none 0 0),.v (.map none)])::(58022,v2,.gmap (gcan kfSS qqM) none)::(58003,v3,.arr 3 111 [hI 2,W35,.mp 58022 v2])::(58004,v4,.arr 1 113 [q71])::(1087021,v69,.arr eFirstSecond.k 116 (eFirstSecond.E p70))::(58044,v13,.gmap (gcan kfSS qqL) none)::H⟩
 have g106_7:∀ (v1060401:Nat),F [0,1,2,3,4,5] (P [(77,.mp 58045 v14),(80,hI 1),(82,.v (goInt v1060401))] [(58045,v14,.gmap (gcan kfSS qkZ) (some (v1060401,kfSS ([],[48,49])))),(58011,v68,.arr 2 116 [.str nS,.str [48,49]]),(58014,v103,.arr 2 116 [.str nS,.str [49]])]):=by
  intro v1060401;refine qaT hF rfl [6] rfl rfl ⟨?_,trivial⟩;refine qfh rfl rfl rfl (fun hN=>qiM hN qd4 (n:=v1060401) (k:=([],[48,49])) (e:=qkZ) (hv:=hI 1) rfl rfl rfl rfl rfl (by repeat first | exact qa7 | refine qaK (fun _ _ _ e=>by cases e) ?_) ?_);exact qab (lg hF (g106_8))
 have g106_6:∀ (v1060401:Nat),F [0,1,2,4,5] (P [(77,.mp 58045 v14),(79,hI 0),(82,.v (goInt v1060401))] [(58045,v14,.gmap (gcan kfSS qkZ) (some (v1060401,kfSS ([],[48,49])))),(58011,v68,.arr 2 116 [.str nS,.str [48,49]]),(58014,v103,.arr 2 116 [.str nS,.str [49]])]):=by
  intro v1060401;refine qbO (i:=3) hF rfl rfl rfl (qgJ rfl rfl rfl qaX rfl) ?_;exact lg hF (g106_7 v1060401)
 have g106_10:∀ (v1060401:Nat),F [0,1,2,3,4] (P [(77,.mp 58045 v14),(80,hI 1),(81,.tup [hI 0,.v (goInt v1060401)])] [(58045,v14,.gmap (gcan kfSS qkZ) (some (v1060401,kfSS ([],[48,49])))),(58011,v68,.arr 2 116 [.str nS,.str [48,49]]),(58014,v103,.arr 2 116 [.str nS,.str [49]])]):=by
  intro v1060401;refine qbO (i:=5) hF rfl rfl rfl (qlD rfl rfl rfl) ?_;exact lg hF (g106_7 v1060401)
 have g106_5:∀ (v1060401:Nat),F [0,1,4,5] (P [(77,.mp 58045 v14),(78,.agg [.str nS,.str [48,49]]),(82,.v (goInt v1060401))] [(58045,v14,.gmap (gcan kfSS qkZ) (some (v1060401,kfSS ([],[48,49])))),(58011,v68,.arr 2 116 [.str nS,.str [48,49]]),(58014,v103,.arr 2 116 [.str nS,.str [49]])]):=by
  intro v1060401;refine qaT hF rfl [2] rfl rfl ⟨?_,trivial⟩;refine qfh rfl rfl rfl (fun hN=>qgc hN qbc (k:=([],[48,49])) (e:=qkZ) (zh:=hI 0) rfl qbC ty3 rfl rfl rfl (by decide) rfl (by decide) ?_);exact qab (lg hF (g106_6 v1060401))
 have g106_9:F [0,1,2,3] (P [(77,.mp 58045 v14),(78,.agg [.str nS,.str [48,49]]),(80,hI 1)] [(58045,v14,.gmap (gcan kfSS []) none),(58011,v68,.arr 2 116 [.str nS,.str [48,49]]),(58014,v103,.arr 2 116 [.str nS,.str [49]])]):=by
  refine qaT hF rfl [4] rfl rfl ⟨?_,trivial⟩;refine qfh rfl rfl rfl (fun hN=>qid hN qbc (k:=([],[48,49])) (e:=[]) (zh:=hI 0) rfl qbC ty3 rfl rfl rfl (by decide) rfl (by decide) (by repeat first | exact qa7 | refine qaK (fun _ _ _ e=>by cases e) ?_) fun v1060401=>?_);exact qab (lg hF (g106_10 v1060401))
 have g106_3:F [0,1,2] (P [(77,.mp 58045 v14),(78,.agg [.str nS,.str [48,49]]),(79,hI 0)] [(58045,v14,.gmap (gcan kfSS []) none),(58011,v68,.arr 2 116 [.str nS,.str [48,49]]),(58014,v103,.arr 2 116 [.str nS,.str [49]])]):=by
  refine qbO (i:=3) hF rfl rfl rfl (qgJ rfl rfl rfl qaX rfl) ?_;exact lg hF (g106_9)
 have g106_4:∀ (v1060401:Nat),F [0,1,4] (P [(77,.mp 58045 v14),(78,.agg [.str nS,.str [48,49]]),(81,.tup [hI 0,.v (goInt v1060401)])] [(58045,v14,.gmap (gcan kfSS qkZ) (some (v1060401,kfSS ([],[48,49])))),(58011,v68,.arr 2 116 [.str nS,.str [48,49]]),(58014,v103,.arr 2 116 [.str nS,.str [49]])]):=by
  intro v1060401;refine qbO (i:=5) hF rfl rfl rfl (qlD rfl rfl rfl) ?_;exact lg hF (g106_5 v1060401)
 have g106_2:F [0,1] (P [(77,.mp 58045 v14),(78,.agg [.str nS,.str [48,49]])] [(58045,v14,.gmap (gcan kfSS []) none),(58011,v68,.arr 2 116 [.str nS,.str [48,49]]),(58014,v103,.arr 2 116 [.str nS,.str [49]])]):=by
  refine qaT hF rfl [2,4] rfl rfl ⟨?_,?_,trivial⟩
  ·refine qfh rfl rfl rfl (fun hN=>qgc hN qbc (k:=([],[48,49])) (e:=[]) (zh:=hI 0) rfl qbC ty3 rfl rfl rfl (by decide) rfl (by decide) ?_)
   exact qab (lg hF (g106_3))
  refine qfh rfl rfl rfl (fun hN=>qid hN qbc (k:=([],[48,49])) (e:=[]) (zh:=hI 0) rfl qbC ty3 rfl rfl rfl (by decide) rfl (by decide) (by repeat first | exact qa7 | refine qaK (fun _ _ _ e=>by cases e) ?_) fun v1060401=>?_);exact qab (lg hF (g106_4 v1060401))
 have g106_1:F [0] (P [(77,.mp 58045 v14)] [(58045,v14,.gmap (gcan kfSS []) none),(58011,v68,.arr 2 116 [.str nS,.str [48,49]]),(58014,v103,.arr 2 116 [.str nS,.str [49]])]):=by
  refine qaT hF rfl [1] rfl rfl ⟨?_,trivial⟩;exact l_ov rfl rfl rfl rfl (qaf qaJ rfl rfl (qao rfl (lb rfl) rfl)) (lg hF (g106_2))
 have g106_0:F [] (P [] [(58045,v14,.gmap (gcan kfSS []) none),(58011,v68,.arr 2 116 [.str nS,.str [48,49]]),(58014,v103,.arr 2 116 [.str nS,.str [49]])]):=by
  refine qfR (i:=0) hF rfl rfl rfl (qaE rfl rfl).2 ?_;exact lg hF (g106_1)
 exact g106_0
def qbv (a b:List UInt8):Option Int:=some (Lib.compareBytes a b)
end Go.AW
