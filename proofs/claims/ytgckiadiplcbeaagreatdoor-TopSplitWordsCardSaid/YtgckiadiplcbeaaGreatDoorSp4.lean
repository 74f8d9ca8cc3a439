import Derived.Test.YtgckiadiplcbeaaGreatDoorSp3
import Derived.Deep.Draws
import Derived.Laws.Externs
import Derived.Lib.Builder
import Derived.Lib.ConvBytes
import Derived.Lib.UnsafeStr
import Derived.Shelf.Bits.Mul64
import Derived.Shelf.RegionOpenPlain
import Derived.Shelf.SlSortCmp.NoneTotal
import Derived.Shelf.SlSortCmp.WholeK
import Derived.Shelf.Slices.Reverse
import Derived.Sort.Grow
import Derived.Test.YtgckiadiplcbeaaGreatDoorChecked
import Derived.WalkKit
namespace Go.AW
open Go Go.Proofs
set_option maxHeartbeats 1600000
set_option maxRecDepth 100000
theorem cl_fits {n b:Nat} (hb:b≤64) (h:n≤1099511627776):fits b (0+n):=by
  rw [Nat.zero_add];refine ⟨Nat.le_trans (Nat.mul_le_mul h hb) (by decide),Nat.le_trans h (by decide)⟩
theorem c_cloneE {l r:List TFromLabelTo} {H:Heap} {K:HV→Heap→Prop} (id f:Nat) (hid:f*1000+5=id) (h:m_slices_Clone_Lapi_Edge_api_Edge l=some r) (hK:∀ ver,K (.ar id ver 3 0 r.length) (hset H id ver (.arr 3 55 (eFromLabelTo.E r)))):ACall Tryz.prog 20 [slE eFromLabelTo l] H K:=by
  unfold m_slices_Clone_Lapi_Edge_api_Edge at h;split at h
  case isFalse=>cases h
  rename_i hl
  cases h;refine ACall.of_body Tryz.func20 rfl rfl (lb rfl) ?_;unfold Tryz.f20;dsimp only [enumS,Nat.reduceAdd];refine AW.rgs rfl fun K1 hK1=>?_;refine mv rfl rfl ?_;refine b_nil (hK1 _ (AW.to (to_le (s':=⟨[(0,slE eFromLabelTo l)],H⟩) ⟨leS_get ⟨rfl,trivial⟩,fun _ _ h=>h⟩ ?_)));clear hK1 K1;refine AW.seq ?_;refine AW.rgs rfl fun K1 hK1=>?_;refine mv rfl rfl ?_;refine b_eqNil rfl rfl ty22 rfl rfl fun b hb=>?_;refine b_nil (hK1 _ (AW.to (to_le (s':=⟨[(0,slE eFromLabelTo l),(4,.bool b)],H⟩) ⟨leS_get ⟨rfl,rfl,trivial⟩,fun _ _ h=>h⟩ ?_)));clear hK1 K1;refine AW.cond rfl (fun hc=>?_) (fun hc=>?_)
  · have hl0:l=[]:=List.eq_nil_of_length_eq_zero (hb hc)
    subst hl0;refine AW.rgs rfl fun K1 hK1=>?_;refine mv rfl rfl ?_;refine b_nil (hK1 _ (AW.to (to_le (s':=⟨[(2,.v (.slice none 0 0))],H⟩) ⟨leS_get ⟨rfl,trivial⟩,fun _ _ h=>h⟩ ?_)));clear hK1 K1;refine AW.to (to_own id 2 3 55 rfl fun ver=>?_);refine AW.ret ?_;exact ret_to (hs:=[.ar id ver 3 0 0]) (q:=.ar id ver 3 0 0) (.inr rfl) (resT rfl rfl) rfl (hK ver)
  refine AW.skip ?_;refine AW.rgs rfl fun K1 hK1=>?_;refine b_op rfl (o_bslM (fid:=f) id rfl hid rfl (as_of (cs:=[]) ty22 ty55 rfl rfl rfl rfl rfl) fun ver=>?_);refine mv rfl rfl ?_;refine b_op rfl (o_appE eFromLabelTo (l:=[]) (m:=l) rfl rfl ty22 ty22 ty55 rfl hget_hd rfl rfl rfl (cl_fits (by decide) hl) fun ver'=>?_);refine mv rfl rfl ?_;refine b_nil (hK1 _ (AW.to (to_le (s':=⟨[(2,.ar id ver' 3 0 l.length)],hset H id ver' (.arr 3 55 (eFromLabelTo.E l))⟩) ⟨leS_get ⟨rfl,trivial⟩,fun j x hx=>?_⟩ ?_)))
  · rw [hget_hset] at hx
    by_cases e:j=id
    · subst e; rw [if_pos rfl] at hx; rw [hget_hd]; exact hx
    rw [if_neg e] at hx; rw [hget_tl e,hget_tl e]; exact hx
  clear hK1 K1;refine AW.ret ?_;exact ret_to (hs:=[.ar id ver' 3 0 l.length]) (q:=.ar id ver' 3 0 l.length) (.inr rfl) (resT rfl rfl) rfl (hK ver')
theorem w_slices_Clone_Lint_int {l r:List Int} (h:m_slices_Clone_Lint_int l=some r):Pure Tryz.prog 57 [slE eInt l] (· = slE eInt r):=by
  unfold m_slices_Clone_Lint_int at h;split at h
  case isFalse=>cases h
  rename_i hl
  cases h;refine Pure.of_body Tryz.func57 rfl rfl (lb rfl) fun hf=>?_;clear hf;unfold Tryz.f57;dsimp only [enumS,Nat.reduceAdd];refine AW.rgs rfl fun K1 hK1=>?_;refine mv rfl rfl ?_;refine b_nil (hK1 _ (AW.to (to_le (s':=⟨[(0,slE eInt l)],[]⟩) ⟨leS_get ⟨rfl,trivial⟩,fun _ _ h=>h⟩ ?_)));clear hK1 K1;refine AW.seq ?_;refine AW.rgs rfl fun K1 hK1=>?_;refine mv rfl rfl ?_;refine b_eqNil rfl rfl ty25 rfl rfl fun b hb=>?_;refine b_nil (hK1 _ (AW.to (to_le (s':=⟨[(0,slE eInt l),(4,.bool b)],[]⟩) ⟨leS_get ⟨rfl,rfl,trivial⟩,fun _ _ h=>h⟩ ?_)));clear hK1 K1;refine AW.cond rfl (fun hc=>?_) (fun hc=>?_)
  · have hl0:l=[]:=List.eq_nil_of_length_eq_zero (hb hc)
    subst hl0;refine AW.rgs rfl fun K1 hK1=>?_;refine mv rfl rfl ?_;refine b_nil (hK1 _ (AW.to (to_weak ⟨[(2,slE eInt [])],[]⟩ ⟨⟨_,rfl,.nil _⟩,trivial⟩ trivial ?_)));clear hK1 K1;refine AW.ret ?_;exact ret_pure (.inr rfl) (resT rfl rfl) rfl (clean_slE fun _ _=>⟨trivial,trivial⟩)
  refine AW.skip ?_;refine AW.rgs rfl fun K1 hK1=>?_;refine b_op rfl (o_bslM (fid:=57) 57005 rfl rfl rfl (as_of (cs:=[]) ty25 ty3 rfl rfl rfl rfl rfl) fun ver=>?_);refine mv rfl rfl ?_;refine b_op rfl (o_appE eInt (l:=[]) (m:=l) rfl rfl ty25 ty25 ty3 rfl hget_hd rfl rfl rfl (cl_fits (by decide) hl) fun ver'=>?_);refine mv rfl rfl ?_;refine b_nil (hK1 _ (AW.to (to_frz 2 [(57005,ver',.arr 1 3 (eInt.E l))] ⟨[(2,slE eInt l)],[]⟩ ⟨⟨_,rfl,frz_slE eInt (l:=l) rfl fun _ _=>rfl⟩,trivial⟩ trivial ⟨rfl,trivial⟩ ⟨rfl,trivial⟩ ?_)));clear hK1 K1;refine AW.ret ?_;exact ret_pure (.inr rfl) (resT rfl rfl) rfl (clean_slE fun _ _=>⟨trivial,trivial⟩)
end Go.AW
namespace Go.Proofs
open Go
def Tryz.sortE_ren:Go.Shelf.Ren:=⟨fun | 6=>47 | 15=>72 | 14=>71 | 28=>97 | 29=>98 | 20=>89 | 21=>90 | 22=>91 | 23=>92 | 24=>93 | 25=>94 | 26=>95 | 27=>96 | 46=>124 | 47=>125 | 48=>126 | 49=>127 | 50=>128 | 57=>141 | n=>n,fun | 22=>22 | 24=>55 | 25=>91 | 3=>3 | 39=>117 | 0=>0 | 53=>150 | 55=>152 | 4=>4 | 46=>144 | 45=>143 | 50=>101 | 5=>5 | 9=>9 | 66=>168 | 70=>172 | 76=>185 | 77=>186 | n=>n,fun | n=>n⟩
theorem Tryz.sortE:Go.Proofs.SlLaysF0.n6 Tryz.prog Tryz.sortE_ren where
 mixed:=by kernel_rfl
 f6:=⟨"slices.SortFunc[[]groove/api.Edge,groove/api.Edge]", by decide,Tryz.func47.trans (congrArg some (by kernel_rfl))⟩
 f14:=⟨"slices.pdqsortCmpFunc[groove/api.Edge]", by decide,Tryz.func71.trans (congrArg some (by kernel_rfl))⟩
 f15:=Tryz.func72.trans (congrArg some (by kernel_rfl))
 f20:=⟨"slices.insertionSortCmpFunc[groove/api.Edge]", by decide,Tryz.func89.trans (congrArg some (by kernel_rfl))⟩
 f21:=⟨"slices.heapSortCmpFunc[groove/api.Edge]", by decide,Tryz.func90.trans (congrArg some (by kernel_rfl))⟩
 f22:=⟨"slices.breakPatternsCmpFunc[groove/api.Edge]", by decide,Tryz.func91.trans (congrArg some (by kernel_rfl))⟩
 f23:=⟨"slices.choosePivotCmpFunc[groove/api.Edge]", by decide,Tryz.func92.trans (congrArg some (by kernel_rfl))⟩
 f24:=⟨"slices.reverseRangeCmpFunc[groove/api.Edge]", by decide,Tryz.func93.trans (congrArg some (by kernel_rfl))⟩
 f25:=⟨"slices.partialInsertionSortCmpFunc[groove/api.Edge]", by decide,Tryz.func94.trans (congrArg some (by kernel_rfl))⟩
 f26:=⟨"slices.partitionEqualCmpFunc[groove/api.Edge]", by decide,Tryz.func95.trans (congrArg some (by kernel_rfl))⟩
 f27:=⟨"slices.partitionCmpFunc[groove/api.Edge]", by decide,Tryz.func96.trans (congrArg some (by kernel_rfl))⟩
 f28:=Tryz.func97.trans (congrArg some (by kernel_rfl))
 f29:=Tryz.func98.trans (congrArg some (by kernel_rfl))
 f46:=⟨"slices.siftDownCmpFunc[groove/api.Edge]", by decide,Tryz.func124.trans (congrArg some (by kernel_rfl))⟩
 f47:=Tryz.func125.trans (congrArg some (by kernel_rfl))
 f48:=Tryz.func126.trans (congrArg some (by kernel_rfl))
 f49:=⟨"slices.medianAdjacentCmpFunc[groove/api.Edge]", by decide,Tryz.func127.trans (congrArg some (by kernel_rfl))⟩
 f50:=⟨"slices.medianCmpFunc[groove/api.Edge]", by decide,Tryz.func128.trans (congrArg some (by kernel_rfl))⟩
 f57:=⟨"slices.order2CmpFunc[groove/api.Edge]", by decide,Tryz.func141.trans (congrArg some (by kernel_rfl))⟩
 t0:=Tryz.underlying0
 a0:=Tryz.isAgg0
 z0:=Tryz.sizeOf0
 v0:=Tryz.zeroValue0
 t3:=Tryz.underlying3
 a3:=Tryz.isAgg3
 z3:=Tryz.sizeOf3
 v3:=Tryz.zeroValue3
 t4:=Tryz.underlying4
 a4:=Tryz.isAgg4
 z4:=Tryz.sizeOf4
 v4:=Tryz.zeroValue4
 t5:=Tryz.underlying5
 a5:=Tryz.isAgg5
 z5:=Tryz.sizeOf5
 v5:=Tryz.zeroValue5
 t9:=Tryz.underlying9
 a9:=Tryz.isAgg9
 z9:=Tryz.sizeOf9
 v9:=Tryz.zeroValue9
 t22:=Tryz.underlying22
 a22:=Tryz.isAgg22
 z22:=Tryz.sizeOf22
 v22:=Tryz.zeroValue22
 t25:=Tryz.underlying91
 a25:=Tryz.isAgg91
 z25:=Tryz.sizeOf91
 v25:=Tryz.zeroValue91
 t39:=Tryz.underlying117
 a39:=Tryz.isAgg117
 z39:=Tryz.sizeOf117
 v39:=Tryz.zeroValue117
 t45:=Tryz.underlying143
 a45:=Tryz.isAgg143
 z45:=Tryz.sizeOf143
 v45:=Tryz.zeroValue143
 t46:=Tryz.underlying144
 a46:=Tryz.isAgg144
 z46:=Tryz.sizeOf144
 v46:=Tryz.zeroValue144
 t50:=Tryz.underlying101
 a50:=Tryz.isAgg101
 z50:=Tryz.sizeOf101
 v50:=Tryz.zeroValue101
 t53:=Tryz.underlying150
 a53:=Tryz.isAgg150
 z53:=Tryz.sizeOf150
 v53:=Tryz.zeroValue150
 t55:=Tryz.underlying152
 a55:=Tryz.isAgg152
 z55:=Tryz.sizeOf152
 v55:=Tryz.zeroValue152
 t66:=Tryz.underlying168
 a66:=Tryz.isAgg168
 z66:=Tryz.sizeOf168
 v66:=Tryz.zeroValue168
 t70:=Tryz.underlying172
 a70:=Tryz.isAgg172
 z70:=Tryz.sizeOf172
 v70:=Tryz.zeroValue172
 t76:=Tryz.underlying185
 a76:=Tryz.isAgg185
 z76:=Tryz.sizeOf185
 v76:=Tryz.zeroValue185
 t77:=Tryz.underlying186
 a77:=Tryz.isAgg186
 z77:=Tryz.sizeOf186
 v77:=Tryz.zeroValue186
end Go.Proofs
namespace Go.AW
open Go
set_option linter.unusedSimpArgs false
set_option linter.unusedVariables false
theorem loopW_eq {S X:Type} (body:S→Option (Stp S X)) (s:S):loopW body s=match body s with
  | none=>none
  | some (.exit x)=>some x
  | some (.next s')=>loopW body s':=by
 cases h:body s with
 | none=>exact loopW_stuck h
 | some r=>cases r with
  | exit x=>exact loopW_exit h
  | next s'=>exact loopW_next h
abbrev Gr:=TLabelsStatesEdges
abbrev Ed:=TFromLabelTo
def cmp3 (x y:Ed):Int:=if x.1<y.1 then -1 else if y.1<x.1 then 1 else if x.2.1<y.2.1 then -1 else if y.2.1<x.2.1 then 1 else if x.2.2<y.2.2 then -1 else if y.2.2<x.2.2 then 1 else 0
theorem cmpC (a b:Int):m_cmp_Compare_int a b=some (if a<b then -1 else if b<a then 1 else 0):=by
 unfold m_cmp_Compare_int m_cmp_isNaN_int;simp only [ne_eq,not_true_eq_false,decide_false,Option.bind_some,Bool.false_eq_true,if_false]
 split <;> (try rfl)
 split <;> rfl
theorem wr0:IntKind.wrap .i64 (0+1)=1:=by decide
theorem wr1:IntKind.wrap .i64 (1+1)=2:=by decide
theorem wr2:IntKind.wrap .i64 (2+1)=3:=by decide
theorem ix3_0 (a b c:Int):idx [a,b,c] 0=some a:=rfl
theorem ix3_1 (a b c:Int):idx [a,b,c] 1=some b:=rfl
theorem ix3_2 (a b c:Int):idx [a,b,c] 2=some c:=rfl
theorem len3 (a b c:Int):(([a,b,c]:List Int).length:Int)=3:=rfl
theorem by1_eq (x y:Ed):m_graph_by_api_Edge_1 x y=some (cmp3 x y):=by
 unfold m_graph_by_api_Edge_1 m_graph_list m_slices_Compare_Lint_int cmp3;simp only [Option.bind_some,len3];rw [loopW_eq];simp only [ix3_0,cmpC,Option.bind_some,wr0];by_cases a1:x.1<y.1
 ·simp [a1,lpO]
 by_cases a2:y.1<x.1
 ·simp [a1,a2,lpO]
 simp only [a1,a2,if_false,ne_eq,not_true_eq_false,if_true,Int.reduceLT,Int.reduceLE];rw [loopW_eq];simp only [ix3_1,cmpC,Option.bind_some,wr1];by_cases b1:x.2.1<y.2.1
 ·simp [b1,lpO]
 by_cases b2:y.2.1<x.2.1
 ·simp [b1,b2,lpO]
 simp only [b1,b2,if_false,ne_eq,not_true_eq_false,if_true,Int.reduceLT,Int.reduceLE];rw [loopW_eq];simp only [ix3_2,cmpC,Option.bind_some,wr2];by_cases c1:x.2.2<y.2.2
 ·simp [c1,lpO]
 by_cases c2:y.2.2<x.2.2
 ·simp [c1,c2,lpO]
 simp only [c1,c2,if_false,ne_eq,not_true_eq_false,if_true,Int.reduceLT,Int.reduceLE];rw [loopW_eq];simp [lpO]
theorem cmp_eq (x y:Ed):m_ref09_Compare x y=some (cmp3 x y):=by
 unfold m_ref09_Compare cmp3;rw [loopW_eq];simp only [ix3_0,Option.bind_some,wr0];by_cases a1:x.1<y.1
 ·simp [a1,lpO]
 by_cases a2:y.1<x.1
 ·simp [a1,a2,lpO]
 simp only [a1,a2,if_false,if_true,Int.reduceLT];rw [loopW_eq];simp only [ix3_1,Option.bind_some,wr1];by_cases b1:x.2.1<y.2.1
 ·simp [b1,lpO]
 by_cases b2:y.2.1<x.2.1
 ·simp [b1,b2,lpO]
 simp only [b1,b2,if_false,if_true,Int.reduceLT];rw [loopW_eq];simp only [ix3_2,Option.bind_some,wr2];by_cases c1:x.2.2<y.2.2
 ·simp [c1,lpO]
 by_cases c2:y.2.2<x.2.2
 ·simp [c1,c2,lpO]
 simp only [c1,c2,if_false,if_true,Int.reduceLT];rw [loopW_eq];simp [lpO]
theorem Check_ref (g:Gr):m_graph_Check g=m_ref09_Check g:=by
 unfold m_graph_Check m_ref09_Check
 have key:∀ (x:Ed) (k:Bool→Option (Stp Int (Ou Unit Int))),(if (min (min x.1 x.2.1) x.2.2)<0 then k true else if g.2.1≤(max x.1 x.2.2) then k true else k (decide (g.1≤x.2.1))) =
   (if x.1<0 then k true else if g.2.1≤x.1 then k true else if x.2.2<0 then k true else if g.2.1≤x.2.2 then k true else if x.2.1<0 then k true else k (decide (g.1≤x.2.1))):=by
  intro x k;by_cases h1:x.1<0
  ·rw [if_pos (by omega),if_pos h1]
  by_cases h2:g.2.1≤x.1
  ·rw [if_neg h1,if_pos h2]
   split
   ·rfl
   rw [if_pos (by omega)]
  by_cases h3:x.2.2<0
  ·rw [if_neg h1,if_neg h2,if_pos h3,if_pos (by omega)]
  by_cases h4:g.2.1≤x.2.2
  ·rw [if_neg h1,if_neg h2,if_neg h3,if_pos h4]
   split
   ·rfl
   rw [if_pos (by omega)]
  by_cases h5:x.2.1<0
  ·rw [if_neg h1,if_neg h2,if_neg h3,if_neg h4,if_pos h5,if_pos (by omega)]
  rw [if_neg h1,if_neg h2,if_neg h3,if_neg h4,if_neg h5,if_neg (by omega),if_neg (by omega)]
 simp only [by1_eq,cmp_eq,key]
structure VG (g:Gr):Prop where
 l1:1≤g.1
 l2:g.1≤256
 s0:0≤g.2.1
 s1:g.2.1≤64
 el:g.2.2.length≤1024
 ed:∀ x∈g.2.2,0≤x.1∧x.1<g.2.1∧0≤x.2.2∧x.2.2<g.2.1∧0≤x.2.1∧x.2.1<g.1
 ord:∀ (i:Nat) (h:i+1<g.2.2.length),cmp3 (g.2.2[i]'(by omega)) g.2.2[i+1]<0
theorem ix_pred {α:Type} {l:List α} {i:Nat} (h:i<l.length) (hm:l.length≤9223372036854775807) (h0:0<i):idx l (IntKind.wrap .i64 ((i:Int) - 1))=some (l[i - 1]'(by omega)):=by
 rw [w64 (by omega) (by omega),show ((i:Int) - 1)=((i - 1:Nat):Int) by omega];exact ix (by omega)
theorem lpO_ex {V R Y:Type} {o:Option (Ou V R)} {M:V→Option Y} {Rt:R→Option Y} {C:Y→Prop} (Q:Ou V R→Prop) (h:∃ x,o=some x∧Q x) (k:∀ x,Q x→∃ e,lpO (some x) M Rt=some e∧C e):∃ e,lpO o M Rt=some e∧C e:=by
 obtain ⟨x,rfl,hq⟩:=h;exact k x hq
theorem Check_tot (g:Gr):∃ e,m_ref09_Check g=some e∧(e=0↔VG g):=by
  unfold m_ref09_Check;simp only [jp];by_cases h1:g.1<1
  · exact ⟨12,by simp [h1],by simp; intro v; have:=v.l1; omega⟩
  by_cases h2:256<g.1
  · exact ⟨12,by simp [h1,h2],by simp; intro v; have:=v.l2; omega⟩
  by_cases h3:g.2.1<0
  · exact ⟨2,by simp [h1,h2,h3],by simp; intro v; have:=v.s0; omega⟩
  by_cases h4:64<g.2.1
  · exact ⟨4,by simp [h1,h2,h3,h4],by simp; intro v; have:=v.s1; omega⟩
  by_cases h5:1024<(g.2.2.length:Int)
  · exact ⟨4,by simp [h1,h2,h3,h4,h5],by simp; intro v; have:=v.el; omega⟩
  simp only [h1,h2,h3,h4,h5,if_false,decide_false,Bool.false_eq_true,cmp_eq,Option.bind_some,if_true];refine lpO_ex (fun x=>(x=.ret 2∧¬ VG g)∨(x=.ret 10∧¬ VG g)∨(x=.go ()∧VG g)) ?_ ?_
  · refine loopN g.2.2.length (fun i s=>s=(i:Int)∧(∀ (j:Nat) (h:j<i) (hj:j<g.2.2.length),0≤g.2.2[j].1∧g.2.2[j].1<g.2.1∧0≤g.2.2[j].2.2∧g.2.2[j].2.2<g.2.1∧0≤g.2.2[j].2.1∧g.2.2[j].2.1<g.1) ∧
        ∀ (j:Nat) (h:j+1<i) (hj:j+1<g.2.2.length),cmp3 (g.2.2[j]'(by omega)) g.2.2[j+1]<0) ?_ ?_ 0 _ (Nat.zero_le _) ⟨rfl,fun _ h=>by omega,fun _ h=>by omega⟩
    · rintro i s hi ⟨rfl,he,ho⟩
      rw [if_pos (lt_int hi),ix hi];simp only [Option.bind_some];by_cases hg:0≤g.2.2[i].1∧g.2.2[i].1<g.2.1∧0≤g.2.2[i].2.2∧g.2.2[i].2.2<g.2.1∧0≤g.2.2[i].2.1∧g.2.2[i].2.1<g.1
      · obtain ⟨e1,e2,e3,e4,e5,e6⟩:=hg
        rw [if_neg (by omega),if_neg (by omega),if_neg (by omega),if_neg (by omega),if_neg (by omega)];have hd:decide (g.1≤g.2.2[i].2.1)=false:=decide_eq_false (by omega);rw [hd];simp only [Bool.false_eq_true,if_false]
        have he':∀ (j:Nat) (h:j<i+1) (hj:j<g.2.2.length),0≤g.2.2[j].1∧g.2.2[j].1<g.2.1∧0≤g.2.2[j].2.2∧g.2.2[j].2.2<g.2.1∧0≤g.2.2[j].2.1∧g.2.2[j].2.1<g.1:=by
          intro j hj hjl;by_cases hji:j=i
          · subst hji; exact ⟨e1,e2,e3,e4,e5,e6⟩
          exact he j (by omega) hjl
        by_cases h0:0<i
        · rw [if_pos (by omega),ix_pred hi (by omega) h0]
          simp only [Option.bind_some];by_cases hc:0≤cmp3 (g.2.2[i - 1]'(by omega)) g.2.2[i]
          · refine .inr ⟨.ret 10,by rw [if_pos (decide_eq_true hc)],.inr (.inl ⟨rfl,fun v=>?_⟩)⟩
            have:=v.ord (i - 1) (by omega);simp only [show i - 1+1=i by omega] at this;omega
          refine .inl ⟨_,by rw [if_neg (by simpa using hc)],by rw [nx (by omega:g.2.2.length≤_) hi],he',fun j hj hjl=>?_⟩;by_cases hji:j+1=i
          · have hj':j=i - 1:=by omega
            subst hj';simp only [show i - 1+1=i by omega];omega
          exact ho j (by omega) hjl
        refine .inl ⟨_,by rw [if_neg (by omega)],by rw [nx (by omega:g.2.2.length≤_) hi],he',fun j hj hjl=>by omega⟩
      have hv:¬ VG g:=fun v=>hg (v.ed _ (List.getElem_mem hi));refine .inr ⟨.ret 2,?_,.inl ⟨rfl,hv⟩⟩;by_cases e1:g.2.2[i].1<0
      · rw [if_pos e1]
      rw [if_neg e1];by_cases e2:g.2.1≤g.2.2[i].1
      · rw [if_pos e2]
      rw [if_neg e2];by_cases e3:g.2.2[i].2.2<0
      · rw [if_pos e3]
      rw [if_neg e3];by_cases e4:g.2.1≤g.2.2[i].2.2
      · rw [if_pos e4]
      rw [if_neg e4];by_cases e5:g.2.2[i].2.1<0
      · rw [if_pos e5]
      rw [if_neg e5,if_pos (decide_eq_true (by omega))]
    rintro s ⟨rfl,he,ho⟩
    rw [if_neg (not_lt_int _)];refine ⟨_,rfl,.inr (.inr ⟨rfl,⟨by omega,by omega,by omega,by omega,by omega,fun x hx=>?_,fun i h=>ho i h h⟩⟩)⟩;obtain ⟨j,hj,rfl⟩:=List.getElem_of_mem hx;exact he j hj hj
  rintro x (⟨rfl,hv⟩ | ⟨rfl,hv⟩ | ⟨rfl,hv⟩)
  · exact ⟨2,rfl,by simp [hv]⟩
  · exact ⟨10,rfl,by simp [hv]⟩
  exact ⟨0,rfl,by simp [hv]⟩
theorem cmp3_neg {x y:Ed}:cmp3 x y<0↔x.1<y.1∨x.1=y.1∧(x.2.1<y.2.1∨x.2.1=y.2.1∧x.2.2<y.2.2):=by
 unfold cmp3;by_cases a:x.1<y.1
 ·rw [if_pos a]; constructor
  ·intro _; exact .inl a
  intro _; decide
 rw [if_neg a];by_cases b:y.1<x.1
 ·rw [if_pos b]; constructor
  ·intro h; exact absurd h (by decide)
  rintro (h | ⟨h,_⟩) <;> omega
 rw [if_neg b];by_cases c:x.2.1<y.2.1
 ·rw [if_pos c]; constructor
  ·intro _; exact .inr ⟨by omega,.inl c⟩
  intro _; decide
 rw [if_neg c];by_cases d:y.2.1<x.2.1
 ·rw [if_pos d]; constructor
  ·intro h; exact absurd h (by decide)
  rintro (h | ⟨_,h | ⟨h,_⟩⟩) <;> omega
 rw [if_neg d];by_cases e:x.2.2<y.2.2
 ·rw [if_pos e]; constructor
  ·intro _; exact .inr ⟨by omega,.inr ⟨by omega,e⟩⟩
  intro _; decide
 rw [if_neg e];by_cases f:y.2.2<x.2.2
 ·rw [if_pos f]; constructor
  ·intro h; exact absurd h (by decide)
  rintro (h | ⟨_,h | ⟨_,h⟩⟩) <;> omega
 rw [if_neg f]; constructor
 ·intro h; exact absurd h (by decide)
 rintro (h | ⟨_,h | ⟨_,h⟩⟩) <;> omega
def eLe (x y:Ed):Bool:=!decide (cmp3 y x<0)
theorem eLe_iff {x y:Ed}:eLe x y=true↔¬ cmp3 y x<0:=by unfold eLe; simp
theorem eLe_total (x y:Ed):(eLe x y || eLe y x)=true:=by
 rw [Bool.or_eq_true,eLe_iff,eLe_iff,cmp3_neg,cmp3_neg];omega
theorem eLe_trans (x y z:Ed) (h1:eLe x y=true) (h2:eLe y z=true):eLe x z=true:=by
 rw [eLe_iff,cmp3_neg] at *;omega
theorem eLe_antisymm {x y:Ed} (h1:eLe x y=true) (h2:eLe y x=true):x=y:=by
 rw [eLe_iff,cmp3_neg] at *;obtain ⟨a,b,c⟩:=x;obtain ⟨a',b',c'⟩:=y;simp only at h1 h2
 have e1:a=a':=by omega
 have e2:b=b':=by omega
 have e3:c=c':=by omega
 rw [e1,e2,e3]
def sortEd (l:List Ed):List Ed:=l.mergeSort eLe
theorem sortEd_perm (l:List Ed):(sortEd l).Perm l:=List.mergeSort_perm l _
theorem sortEd_sorted (l:List Ed):(sortEd l).Pairwise fun x y=>eLe x y=true:=List.pairwise_mergeSort eLe_trans eLe_total l
theorem sortEd_len (l:List Ed):(sortEd l).length=l.length:=(sortEd_perm l).length_eq
theorem sortEd_eq {l l':List Ed} (h:l.Perm l') (hs:l'.Pairwise fun x y=>eLe x y=true):sortEd l=l' :=
 List.Perm.eq_of_pairwise (le:=fun x y=>eLe x y=true) (fun _ _ _ _ h1 h2=>eLe_antisymm h1 h2) (sortEd_sorted l) hs ((sortEd_perm l).trans h)
structure SortsG {α:Type} (P:Program) (f:FuncId) (en:EncL α) (srt:List α→List α) (cmp:HV):Prop where
 arr:∀ (H:Heap) (id ver:Nat) (e:TypeId) (l:List α) (K:HV→Heap→Prop),hget H id=some (ver,.arr en.k e (en.E l))→l.length<4611686018427387904→K (.tup []) (hset H id ver (.arr en.k e (en.E (srt l))))→ACall P f [.ar id ver en.k 0 l.length,cmp] H K
section
variable {α:Type} {en:EncL α} {srt:List α→List α} {cmp:HV} {P:Program} {ro:Option Nat} {N:Nat} {o:Oper} {sl:List (Nat × HV)} {H:Heap} {all:Array Oper} {rest:List Oper} {K:AS→Prop}
theorem o_sortEd {d:Nat} {aa:Array Operand} {ts:Array TypeId} {f:Operand} {g:FuncId} {id ver:Nat} {e:TypeId} {l:List α} (hS:SortsG P g en srt cmp) (h0:(o.dst,o.op)=(some d,.call ⟨.value f,aa,ts⟩)) (hf:(⟨sl,H⟩:AS).ev f=some (.fn (.func g) [] [])) (ha:aa.toList.mapM (⟨sl,H⟩:AS).ev=some [.ar id ver en.k 0 l.length,cmp])
  (hg:hget H id=some (ver,.arr en.k e (en.E l))) (hl:l.length<4611686018427387904) (k:bops P ro N all rest K ⟨(d,.tup [])::sl,(id,ver,.arr en.k e (en.E (srt l)))::H⟩):aop P 0 [] o (fun s'=>bops P ro N all rest K s') ⟨sl,H⟩:=by
 obtain ⟨h1,h2⟩:=Prod.mk.inj h0;refine op_call h2 hf ha rfl (hS.arr H id ver e l _ hg hl ?_);rw [h1];exact bops_le (put_le (s:=⟨sl,hset H id ver _⟩) d _) (bops_le (hset_le H id ver _ _) k)
end
theorem SR.frzH {w:World} {μ:Mu} {H D H':Heap} (n:Nat) (h:SR w μ H) (hD:∀ id x,hget D id=some x→hget H id=some x∧hget H' id=none)
  (hs:∀ id ver o,hget H' id=some (ver,o)→hget H id=some (ver,o)∨∃ k e cs,hget H id=some (ver,.arr k e cs)∧o=.arr k e (cs.map (frz n D))):SR w (μ.cut H') H' where
 ok:=fun id ver b hb=>h.ok id ver b (Mu.cut_some hb)
 has:=fun id ver o ho=>by
  rcases hs id ver o ho with h1 | ⟨k,e,cs,h1,rfl⟩
  ·obtain ⟨l,hl,hor⟩:=h.has id ver o h1
   exact ⟨l,by simp [Mu.cut,ho,hl],hor.evo (Evo.cut w μ H') h.ok (fun _ _=>rfl) (fun _ _ _ _ _ _ _ _=>rfl)⟩
  obtain ⟨l,hl,hor⟩:=h.has id ver _ h1;refine ⟨l,by simp [Mu.cut,ho,hl],?_⟩
  cases l with
  | none =>
   have:cs=[]:=hor;subst this;exact (rfl:([]:List HV).map (frz n D)=[])
  | some b =>
   obtain ⟨h0,cur,vs,rest,hrow,hcl,hrl⟩:=hor;exact ⟨ones_frz h0,cur,vs,rest,hrow,hcl,RepL.mapF (fun c x _=>frz_rep h hD n c x) hrl⟩
 only:=fun id x hx=>by
  simp only [Mu.cut] at hx;split at hx
  ·rename_i hi; exact Option.isSome_iff_exists.1 hi
  cases hx
 inj:=fun i j v u b hi hj=>h.inj i j v u b (Mu.cut_some hi) (Mu.cut_some hj)
 held:=fun b hb=>⟨(h.held b hb).1,fun ⟨id,ver,hl⟩=>(h.held b hb).2 ⟨id,ver,Mu.cut_some hl⟩⟩
def leO (n:Nat) (D:Heap) (l:Heap):Heap→Prop
 | []=>True
 | (i,v,o)::l'=>(hget l i=some (v,o)∨∃ k e cs,hget l i=some (v,.arr k e cs)∧o=.arr k e (cs.map (frz n D)))∧leO n D l l'
theorem leO_get {n:Nat} {D l:Heap}:∀ {l':Heap},leO n D l l'→∀ t v o,hget l' t=some (v,o)→hget l t=some (v,o)∨∃ k e cs,hget l t=some (v,.arr k e cs)∧o=.arr k e (cs.map (frz n D))
 | [],_,_,_,_,h=>by cases h
 | (i,g,u)::l',h,t,v,o,ht=>by
  simp only [hget] at ht;split at ht
  ·rename_i e; subst e; cases ht; exact h.1
  exact leO_get h.2 t v o ht
theorem to_fill {s:AS} {G:AS→Prop} (n:Nat) (D:Heap) (s':AS) (h1:leF n D s.slots s'.slots) (h2:leO n D s.heap s'.heap) (h3:leH s.heap D) (h4:noneH s'.heap D) (h:G s'):s.to G:=by
 intro ro N B μ a w hs;have hD:∀ id x,hget D id=some x→hget s.heap id=some x∧hget s'.heap id=none:=fun id x hx=>⟨leH_get h3 id x hx,noneH_get h4 id x hx⟩;refine ⟨μ.cut s'.heap,s',h,⟨hs.size,hs.sr.frzH n hD (leO_get h2),fun t hv ht=>?_,hs.marks.evo (Evo.cut w μ s'.heap),hs.ro.evo (Evo.cut w μ s'.heap)⟩,Evo.cut w μ s'.heap⟩;obtain ⟨g,hg,rfl⟩:=leF_get h1 t hv ht;exact ⟨(hs.slot t g hg).1,frz_rep hs.sr hD n g _ (hs.slot t g hg).2⟩
theorem LeL.ones:∀ {aa bs:List HV} (_:LeL aa bs),ones aa→ones bs
 | _,_,.nil,h=>h
 | _,_,.cons h h',h0=>fun c hc=>by
  rcases List.mem_cons.1 hc with rfl | hc
  ·have:=h0 _ (List.mem_cons_self ..)
   cases h with
   | refl=>exact this
   | nil=>rfl
   | empty=>rfl
  exact LeL.ones h' (fun d hd=>h0 d (List.mem_cons_of_mem _ hd)) c hc
theorem to_cells {s:AS} {G:AS→Prop} (id ver:Nat) {k:Nat} {e:TypeId} {cs ds:List HV} (hg:hget s.heap id=some (ver,.arr k e cs)) (hl:LeL cs ds) (h:G ⟨s.slots,(id,ver,.arr k e ds)::s.heap⟩):s.to G:=by
 intro ro N B μ a w hs
 have h1:=hs.sr.reobj (o':=.arr k e ds) hg fun l _ hor=>by
  cases l with
  | none =>
   have:cs=[]:=hor;subst this;cases hl;exact hor
  | some b =>
   obtain ⟨h0,cur,vs,rest,hrow,hcl,hrl⟩:=hor;exact ⟨hl.ones h0,cur,vs,rest,hrow,hcl,hl.rep hrl⟩
 refine ⟨μ,_,h,⟨hs.size,h1.le fun j x=>?_,hs.slot,hs.marks,hs.ro⟩,Evo.refl w μ⟩;simp only [hget,hget_hset]
section
variable {P:Program} {ro:Option Nat} {N:Nat} {all:Array Oper} {s:AS} {rest:List Oper} {o:Oper} {K:AS→Prop} {fid:Nat} {sl:List (Nat × HV)} {H:Heap}
theorem AOps.to {is:List Nat} (h:s.to (AOps P ro N all is K)):AOps P ro N all is K s:=fun w0 μ0 μ a w Q hs hE hK=>by
 obtain ⟨μ1,t,ht,hs1,E1⟩:=h ro N w0.heap.size μ a w hs;exact ht w0 μ0 μ1 a w Q hs1 (hE.trans E1) hK
theorem b_to {l:List Oper} (h:s.to (bops P ro N all l K)):bops P ro N all l K s:=fun hok i hi=>AOps.to (to_mono h fun t ht=>ht hok i hi)
theorem splice_one {xs:List HV} {i:Nat} (v:HV) (h:i<xs.length):splice xs i [v]=xs.set i v:=by
 rw [splice_eq (by show i+1≤_; omega),List.set_eq_take_append_cons_drop,if_pos h];simp
end
theorem grow_of_evo {w w':World} {μ μ':Mu} (E:Evo w μ w' μ') (hn:∀ b,¬ μ.owned b):∃ q os',w'=Go.Sort.grow (w.drewN q) os':=by
 refine ⟨w'.drawn - w.drawn,w'.heap.extract w.heap.size w'.heap.size,?_⟩;have hd:=E.drawn
 have hh:w'.heap=w.heap++w'.heap.extract w.heap.size w'.heap.size:=by
  have hs:=E.size;refine Array.ext_getElem? fun i=>?_;by_cases hi:i<w.heap.size
  ·rw [Array.getElem?_append_left hi]
   exact E.keep i hi (hn i)
  rw [Array.getElem?_append_right (by omega),Array.getElem?_extract];split
  ·congr 1; omega
  exact Array.getElem?_eq_none (by omega)
 obtain ⟨heap,tape,drawn,os,output⟩:=w;obtain ⟨heap',tape',drawn',os',output'⟩:=w';have h1:=E.os; have h2:=E.tape; have h3:=E.output;simp only at h1 h2 h3 hh hd;subst h1 h2 h3;simp only [World.drewN,Go.Sort.grow];rw [Nat.add_sub_cancel' hd,← hh]
section
open Go Go.Proofs Go.Sort Go.Lib
abbrev EdW:={x:TFromLabelTo // (Lit.int .i64 x.1).wf=true∧(Lit.int .i64 x.2.1).wf=true∧(Lit.int .i64 x.2.2).wf=true}
instance:Inhabited EdW:=⟨⟨(0,0,0),by decide⟩⟩
def encW (x:EdW):List Value:=[.int .i64 x.1.1,.int .i64 x.1.2.1,.int .i64 x.1.2.2]
def numsE (l:List TFromLabelTo):List Int:=l.flatMap fun x=>[x.1,x.2.1,x.2.2]
theorem numsE_cons (x:TFromLabelTo) (l:List TFromLabelTo):numsE (x::l)=x.1::x.2.1::x.2.2::numsE l:=rfl
theorem numsE_E (l:List TFromLabelTo):eFromLabelTo.E l=(numsE l).map (HV.int .i64):=by
 rw [eFromLabelTo.hE];unfold numsE;rw [List.map_flatMap];rfl
theorem numsE_len:∀ l:List TFromLabelTo,(numsE l).length=l.length*3
 | []=>rfl
 | x::l=>by
  rw [numsE_cons,List.length_cons,List.length_cons,List.length_cons,numsE_len l,List.length_cons];omega
theorem flat_at:∀ (d:List EdW) (t:Nat),t<d.length*3→((numsE (d.map (·.1))).map (Value.int .i64))[t]?=some (encW d[t / 3]!)[t % 3]!
 | [],t,h=>by simp at h
 | x::d,t,h=>by
  rw [List.map_cons,numsE_cons]
  match t,h with
  | 0,_=>rfl
  | 1,_=>rfl
  | 2,_=>rfl
  | t+3,h =>
   have h':t<d.length*3:=by simp only [List.length_cons] at h; omega
   have e1:(t+3) / 3=t / 3+1:=by omega
   have e2:(t+3) % 3=t % 3:=by omega
   rw [e1,e2,List.map_cons,List.map_cons,List.map_cons,List.getElem?_cons_succ,List.getElem?_cons_succ,List.getElem?_cons_succ,flat_at d t h'];rfl
theorem flatK_eq (d:List EdW):flatK encW 3 d.toArray=((numsE (d.map (·.1))).map (Value.int .i64)).toArray:=by
 refine Array.ext_getElem? fun t=>?_
 have hs:(flatK encW 3 d.toArray).size=d.length*3:=by rw [size_flatK,List.size_toArray]
 have hl:((numsE (d.map (·.1))).map (Value.int .i64)).length=d.length*3:=by rw [List.length_map,numsE_len,List.length_map]
 by_cases h:t<d.length*3
 ·have r1:(flatK encW 3 d.toArray)[t]?=some (encW d[t / 3]!)[t % 3]!:=by
   have:=get_flatK encW 3 d.toArray t (by rw [List.size_toArray]; exact h);rw [getElem!_pos _ _ (by rw [hs]; exact h)] at this;rw [Array.getElem?_eq_getElem (by rw [hs]; exact h),this]
   congr 3
   rw [List.getElem!_toArray]
  have r2:(((numsE (d.map (·.1))).map (Value.int .i64)).toArray)[t]?=some (encW d[t / 3]!)[t % 3]!:=by
   rw [List.getElem?_toArray];exact flat_at d t h
  rw [r1,r2]
 rw [Array.getElem?_eq_none (by rw [hs]; omega),Array.getElem?_eq_none (by rw [List.size_toArray,hl]; omega)]
theorem putRow_map {α:Type} [Inhabited α] (enc:α→Value) (w:World) (b:Nat) (L:List α):putRow id w b 0 (L.map enc).toArray=putRow enc w b 0 L.toArray:=by
 unfold putRow
 congr 1
 funext c
 unfold putCells
 congr 1
 funext k x
 simp only [List.size_toArray,List.length_map];by_cases h:0≤k∧k<0+L.length
 ·rw [if_pos h,if_pos h]
  have hk:k - 0<L.length:=by omega
  rw [getElem!_pos _ _ (by simpa using hk),getElem!_pos _ _ (by simpa using hk)];simp
 rw [if_neg h,if_neg h]
theorem cmpW_lays {w:World} {μ:Mu} {H:Heap} {id ver b n:Nat} {pv:Value} (hs:SR w μ H) (hl:μ.loc id=some (ver,some b)) (hpv:Rep w μ (.fptr [.fn (.func 49) [] []] 0) pv) :
  CmpLays Tryz.prog 73 #[pv] encW 3 (fun x y=>cmp3 x.1 y.1) b 0 n w:=by
 intro m os dk hdk x y;have hp:=w_graph_by_api_Edge_1 (p0:=x.1) (p1:=y.1) (by1_eq x.1 y.1);have hsz:=size_sortWorldK_c encW 3 w b 0 m dk os
 have hold:∀ b',b'<w.heap.size→b'≠b→(sortWorldK encW 3 w b 0 m dk os).heap[b']?=w.heap[b']?:=fun b' hb hne=>by
  show ((w.heap.modify b _)++os)[b']?=_;rw [Array.getElem?_append_left (by rw [Array.size_modify]; exact hb),Array.getElem?_modify,if_neg (fun e=>hne e.symm)]
 have hs2:SR (sortWorldK encW 3 w b 0 m dk os) μ.hide [] :=
  ⟨(fun _ _ _ h=>by cases h),(fun _ _ _ h=>by cases h),(fun _ _ h=>by cases h),(fun _ _ _ _ _ h=>by cases h),(fun c hc=>⟨Nat.lt_of_lt_of_le (hc.elim (fun ⟨_,_,hl⟩=>hs.blk hl) (fun h=>(hs.held c h).1)) hsz,fun ⟨_,_,hl⟩=>by cases hl⟩)⟩
 have hr2:RepL (sortWorldK encW 3 w b 0 m dk os) μ.hide [HV.agg [HV.int .i64 x.1.1,HV.int .i64 x.1.2.1,HV.int .i64 x.1.2.2],HV.agg [HV.int .i64 y.1.1,HV.int .i64 y.1.2.1,HV.int .i64 y.1.2.2],HV.fptr [HV.fn (.func 49) [] []] 0] [.agg (encW x).toArray,.agg (encW y).toArray,pv]:=by
  have hag:∀ z:EdW,Rep (sortWorldK encW 3 w b 0 m dk os) μ.hide (HV.agg [HV.int .i64 z.1.1,HV.int .i64 z.1.2.1,HV.int .i64 z.1.2.2]) (.agg (encW z).toArray):=fun z =>
   ⟨by simp [ones,HV.one],encW z,rfl,_,_,rfl,⟨rfl,z.2.1⟩,_,_,rfl,⟨rfl,z.2.2.1⟩,_,_,rfl,⟨rfl,z.2.2.2⟩,rfl⟩
  refine ⟨_,_,rfl,hag x,_,_,rfl,hag y,_,_,rfl,?_,rfl⟩;obtain ⟨h1,c,base,vs,e,ho,hsg,hrl⟩:=hpv;refine ⟨h1,c,base,vs,e,fun h=>ho ((hide_owns μ c).1 h),?_,?_⟩
  ·have hc:=hsg.lt
   obtain ⟨cur,e2,fr,pre,post,g1,g2,g3⟩:=hsg;exact ⟨cur,e2,fr,pre,post,(hold c hc fun e=>ho (.inl ⟨id,ver,e ▸ hl⟩)).trans g1,g2,g3⟩
  obtain ⟨v,vs',rfl,⟨us,ws,rfl,hu,hw⟩,hn⟩:=hrl;exact ⟨_,_,rfl,⟨us,ws,rfl,hu,hw⟩,hn⟩
 refine (hp.2 μ.hide _ _ hs2 hr2 ⟨(fun _ h=>nomatch h),(fun _ h=>nomatch h)⟩).mono ?_
 rintro e w' ⟨v,r,H',μ',rfl,⟨rfl,_,_⟩,_,hv,E⟩
 have hv':v=.int .i64 (cmp3 x.1 y.1):=hv.1;subst hv';exact ⟨rfl,grow_of_evo E fun _ ⟨_,_,h⟩=>by cases h⟩
theorem ltW_swo:SWO (ltOf fun x y:EdW=>cmp3 x.1 y.1) :=
 ⟨fun x=>by unfold ltOf; rw [decide_eq_false_iff_not,cmp3_neg]; omega,
  fun x y z h1 h2=>by unfold ltOf at *; rw [decide_eq_true_eq,cmp3_neg] at *; omega,
  fun x y z h1 h2=>by unfold ltOf at *; rw [decide_eq_false_iff_not,cmp3_neg] at *; omega⟩
theorem c_sortEd:SortsG Tryz.prog 47 eFromLabelTo sortEd (HV.fn (.func 73) [] [HV.fptr [HV.fn (.func 49) [] []] 0]):=by
 refine ⟨fun H id ver e l K hg hlen hK=>⟨enters' Tryz.func47 rfl rfl,fun μ w vs hs hr _=>?_⟩⟩;obtain ⟨x,xs,rfl,hr,x2,xs2,rfl,⟨us,vs,rfl,hu,hv⟩,hn⟩:=hr;cases hn;cases hu;obtain ⟨pv,vs2,rfl,hpv,hv⟩:=hv;cases hv;obtain ⟨lo,hl,hor⟩:=hs.has _ _ _ hg
 rcases hr with ⟨lo',hl',h⟩ | ⟨hd,_⟩
 ·rw [hl] at hl'
  cases hl'
  rcases h with ⟨rfl,rfl,h0,_⟩ | ⟨b,cap,cur,e',rfl,rfl,hcap,_,hrow,hsz⟩
  ·have h0':l=[]:=List.eq_nil_of_length_eq_zero h0
   subst h0';refine (AnyF.slices_SortFunc_none { Tryz.sortE with } none 0 _ w).mono ?_
   rintro e' w' ⟨rfl,rfl⟩
   refine ⟨_,.tup [],_,μ,rfl,hK,?_,⟨[],rfl,rfl⟩,Evo.refl _ _⟩;have:sortEd []=[]:=List.eq_nil_of_length_eq_zero (sortEd_len []);rw [this];exact hs.same hg
  have hor':=hor;obtain ⟨h0,cur',vs',rest,hrow',hcl,hrl⟩:=hor;rw [numsE_E] at hrl hor';have hgN:=hg;rw [numsE_E] at hgN;obtain ⟨hvs,hreps⟩:=repL_ints hrl;subst hvs
  have hwf:∀ x∈l,(Lit.int .i64 x.1).wf=true∧(Lit.int .i64 x.2.1).wf=true∧(Lit.int .i64 x.2.2).wf=true:=fun x hx=>by
   have hm:∀ y∈[x.1,x.2.1,x.2.2],y∈numsE l:=fun y hy=>List.mem_flatMap.2 ⟨x,hx,hy⟩;exact ⟨(hreps _ (hm _ (by simp))).2,(hreps _ (hm _ (by simp))).2,(hreps _ (hm _ (by simp))).2⟩
  obtain ⟨d,hd⟩:∃ d:List EdW,d.map (·.1)=l:=⟨l.pmap (fun x h=>⟨x,h⟩) hwf,by rw [List.map_pmap]; simp⟩
  have hdl:d.length=l.length:=by rw [← hd,List.length_map]
  have hH:HoldsK encW 3 w b 0 d.toArray:=by
   unfold HoldsK;rw [flatK_eq,hd];have:=holds_row (enc:=_root_.id) (l:=(numsE l).map (Value.int .i64)) (rest:=rest) hrow' (by rw [hcl,List.map_id]);exact this
  have hc:=AnyQ.slices_SortFunc Tryz.sortE 3 (fun w=>Tryz.isAgg55 w) (fun w=>Tryz.sizeOf55 w) encW (fun _=>rfl) (fun x v hv=>by
   simp only [encW,List.mem_cons,List.not_mem_nil,or_false] at hv
   rcases hv with rfl | rfl | rfl <;> rfl) (fun x y=>cmp3 x.1 y.1) ltW_swo 73 #[pv] b 0 cap d.toArray w (enters' Tryz.func73 rfl rfl) (cmpW_lays hs hl hpv) hH hrow'.lt (by simpa [hdl] using hlen)
  rw [show d.toArray.size=l.length by rw [List.size_toArray,hdl]] at hc;refine hc.mono ?_
  rintro e2 w' ⟨rfl,d',n,os,hp,hsd,rfl⟩
  have hd1:d'.toList.map (·.1)=sortEd l:=by
   obtain ⟨p1,_,p3⟩:=hp
   have p1':d'.size=l.length:=by rw [p1,List.size_toArray,hdl]
   have e1:(d'.extract 0 l.length).toList=d'.toList:=by rw [← p1']; simp
   have e2:(d.toArray.extract 0 l.length).toList=d:=by rw [← hdl]; simp
   rw [e1,e2] at p3;refine (sortEd_eq ?_ ?_).symm
   ·rw [← hd]
    exact (p3.map _).symm
   rw [List.pairwise_iff_getElem];intro i j hi hj hij
   have hi':i<d'.size:=by simpa using hi
   have hj':j<d'.size:=by simpa using hj
   have:=hsd i j (Nat.zero_le _) hij (by omega);rw [getElem!_pos d' i hi',getElem!_pos d' j hj'] at this;unfold ltOf at this;rw [decide_eq_false_iff_not] at this;rw [eLe_iff]
   simpa using this
  have hw:sortWorldK encW 3 w b 0 n d' os=grow (putRow (Value.int .i64) (Sort.ahead w n) b 0 (numsE (sortEd l)).toArray) os:=by
   unfold sortWorldK putRowK;rw [show d'=d'.toList.toArray from (Array.toArray_toList (xs:=d')).symm,flatK_eq,hd1,putRow_map]
  rw [hw];have hperm:(numsE (sortEd l)).Perm (numsE l):=List.Perm.flatMap_right _ (sortEd_perm l);obtain ⟨h1,h2⟩:=sorted_world (f:=HV.int .i64) (fun _=>rfl) hs hgN hl hreps hor' (fun vs hv=>(repL_ints hv).1) hperm n os;refine ⟨_,.tup [],_,μ,rfl,hK,?_,⟨[],rfl,rfl⟩,h2⟩;rw [numsE_E];exact h1
 exact absurd hl (hd.2 lo)
end
end Go.AW
namespace Go.Proofs
open Go
def Tryz.revI_ren:Go.Shelf.Ren:=⟨fun | 112=>82 | n=>n,fun | 28=>25 | 3=>3 | 4=>4 | 0=>0 | n=>n,fun | n=>n⟩
theorem Tryz.revI:Go.Proofs.Lays.n112 Tryz.prog Tryz.revI_ren where
 mixed:=by kernel_rfl
 f112:=Tryz.func82.trans (congrArg some (by kernel_rfl))
 t0:=Tryz.underlying0
 a0:=Tryz.isAgg0
 z0:=Tryz.sizeOf0
 v0:=Tryz.zeroValue0
 t3:=Tryz.underlying3
 a3:=Tryz.isAgg3
 z3:=Tryz.sizeOf3
 v3:=Tryz.zeroValue3
 t4:=Tryz.underlying4
 a4:=Tryz.isAgg4
 z4:=Tryz.sizeOf4
 v4:=Tryz.zeroValue4
 t28:=Tryz.underlying25
 a28:=Tryz.isAgg25
 z28:=Tryz.sizeOf25
 v28:=Tryz.zeroValue25
end Go.Proofs
namespace Go.AW
open Go
section
open Go Go.Proofs Go.Sort
theorem c_revI:RevI Tryz.prog 82:=by
 refine ⟨fun H id ver e l K hg hlen hK=>⟨enters' Tryz.func82 rfl rfl,fun μ w vs hs hr _=>?_⟩⟩;obtain ⟨x,xs,rfl,hr,hn⟩:=hr;cases hn;obtain ⟨lo,hl,hor⟩:=hs.has _ _ _ hg
 rcases hr with ⟨lo',hl',h⟩ | ⟨hd,_⟩
 ·rw [hl] at hl'
  cases hl'
  rcases h with ⟨rfl,rfl,h0,_⟩ | ⟨b,cap,cur,e',rfl,rfl,hcap,_,hrow,hsz⟩
  ·have h0':l=[]:=List.eq_nil_of_length_eq_zero h0
   subst h0';refine (Any.slices_Reverse_int_empty Tryz.revI none 0 w).mono ?_
   rintro e' w' ⟨rfl,rfl⟩
   refine ⟨_,.tup [],_,μ,rfl,hK,?_,⟨[],rfl,rfl⟩,Evo.refl _ _⟩;exact hs.same hg
  have hor':=hor;obtain ⟨h0,cur',vs',rest,hrow',hcl,hrl⟩:=hor;obtain ⟨hvs,hreps⟩:=repL_ints hrl;subst hvs;refine (Any.slices_Reverse_int Tryz.revI b 0 cap l w (holds_row hrow' hcl) (by omega)).mono ?_
  rintro e2 w' ⟨rfl,n,rfl⟩
  have h3:=sorted_world (f:=HV.int .i64) (fun _=>rfl) hs hg hl hreps hor' (fun vs hv=>(repL_ints hv).1) (List.reverse_perm l) n #[];rw [grow_empty] at h3;exact ⟨_,.tup [],_,μ,rfl,hK,h3.1,⟨[],rfl,rfl⟩,h3.2⟩
 exact absurd hl (hd.2 lo)
end
end Go.AW
namespace Go.Proofs
open Go
def Tryz.mul_ren:Go.Shelf.Ren:=⟨fun | 212=>104 | 263=>131 | 264=>132 | n=>n,fun | 46=>117 | 51=>150 | 146=>177 | 53=>152 | 148=>179 | n=>n,fun | n=>n⟩
theorem Tryz.mul:Go.Proofs.Lays.n212 Tryz.prog Tryz.mul_ren where
 mixed:=by kernel_rfl
 f212:=Tryz.func104.trans (congrArg some (by kernel_rfl))
 f263:=Tryz.func131.trans (congrArg some (by kernel_rfl))
 f264:=Tryz.func132.trans (congrArg some (by kernel_rfl))
 t46:=Tryz.underlying117
 a46:=Tryz.isAgg117
 z46:=Tryz.sizeOf117
 v46:=Tryz.zeroValue117
 t51:=Tryz.underlying150
 a51:=Tryz.isAgg150
 z51:=Tryz.sizeOf150
 v51:=Tryz.zeroValue150
 t53:=Tryz.underlying152
 a53:=Tryz.isAgg152
 z53:=Tryz.sizeOf152
 v53:=Tryz.zeroValue152
 t146:=Tryz.underlying177
 a146:=Tryz.isAgg177
 z146:=Tryz.sizeOf177
 v146:=Tryz.zeroValue177
 t148:=Tryz.underlying179
 a148:=Tryz.isAgg179
 z148:=Tryz.sizeOf179
 v148:=Tryz.zeroValue179
end Go.Proofs
namespace Go.AW
open Go Go.Proofs
def u64 (n:Nat):HV:=.int .u64 n
theorem mul1 (n:Nat) (hn:n≤1000000):Fresh Tryz.prog 104 [u64 1,u64 n] (.tup [u64 0,u64 n]):=by
 refine Pure.fresh ⟨enters' Tryz.func104 rfl rfl,fun μ w vs hs hr _=>?_⟩ ⟨trivial,trivial,trivial⟩ rfl;obtain ⟨x,xs,rfl,⟨rfl,_⟩,y,ys,rfl,⟨rfl,_⟩,hn'⟩:=hr;cases hn';refine (Any.bits_Mul Tryz.mul 1 n (by omega) (by omega) w).mono ?_
 rintro e w' ⟨rfl,rfl⟩
 have e1:1*n / 18446744073709551616=0:=by omega
 have e2:1*n % 18446744073709551616=n:=by omega
 refine ⟨_,.tup [u64 0,u64 n],[],μ,by rw [e1,e2],⟨rfl,⟨trivial,trivial,trivial⟩,rfl⟩,hs,⟨_,rfl,_,_,rfl,⟨rfl,by decide⟩,_,_,rfl,⟨rfl,?_⟩,rfl⟩,Evo.refl _ _⟩;simp only [Lit.wf,IntKind.min,IntKind.max,IntKind.signed,IntKind.bits,Bool.and_eq_true,decide_eq_true_eq];simp;omega
theorem mul1' (n:Nat) (hn:n≤1000000):Pure Tryz.prog 104 [HV.int .u64 (IntKind.wrap .u64 ((([true]:List Bool).length:Int))),HV.int .u64 (IntKind.wrap .u64 (n:Int))] (· = .tup [HV.int .u64 0,HV.int .u64 n]):=by
 have e:IntKind.wrap .u64 (n:Int)=(n:Int):=by simp only [IntKind.wrap_u64]; omega
 rw [e];exact (mul1 n hn).pure
theorem repI_first (x:Int) (n:Nat):((List.replicate n (0:Int)).map (HV.int .i64)).take 0++([hI x]).take (min 1 n*1)++((List.replicate n (0:Int)).map (HV.int .i64)).drop (0+min 1 n*1)=(List.replicate (min 1 n) x++List.replicate (n - min 1 n) (0:Int)).map (HV.int .i64):=by
  cases n with
  | zero=>rfl
  | succ n =>
    have e:min 1 (n+1)=1:=by omega
    simp [e]
theorem repI_half {x:Int} {n m:Nat} {xs:List HV} (hx:xs=(List.replicate m x++List.replicate (n - m) (0:Int)).map (HV.int .i64)) (h:m≤n):xs.take (0+m*1)++((xs.drop (0+0*1)).take ((m - 0)*1)).take (min (m - 0) (n - m)*1)++xs.drop (0+m*1+min (m - 0) (n - m)*1)
    = (List.replicate (m+min m (n - m)) x++List.replicate (n - (m+min m (n - m))) (0:Int)).map (HV.int .i64):=by
  subst hx;simp only [Nat.mul_one,Nat.zero_mul,Nat.zero_add,List.drop_zero,List.map_append,List.map_replicate,Nat.sub_zero];rw [List.take_left' (by simp),List.take_replicate,Nat.min_eq_left (Nat.min_le_left _ _),← List.drop_drop,List.drop_left' (by simp),List.drop_replicate,List.replicate_append_replicate]
  congr 2
  omega
set_option maxRecDepth 100000 in
set_option maxHeartbeats 1000000 in
theorem repI_own (x:Int) {n:Nat} (hn:n≤1000000) {H:Heap} {KK:HV→Heap→Prop} (i:Nat) (hKK:∀ ver,KK (.ar (rid i) ver 1 0 (List.replicate n x).length) ((rid i,ver,.arr 1 3 (eInt.E (List.replicate n x)))::H)):ACall Tryz.prog 81 [slE eInt [x],hI (n:Int)] H KK:=by
  refine ACall.of_body Tryz.func81 rfl rfl (lb rfl) ?_;unfold Tryz.f81;dsimp only [enumS,Nat.reduceAdd];refine AW.rgs rfl fun K hK=>mv rfl rfl ?_;refine b_nil (hK _ (AW.to (to_le (s':=⟨[(0,slE eInt [x]),(1,hI (n:Int))],H⟩) ⟨leS_get ⟨rfl,rfl,trivial⟩,fun _ _ h=>h⟩ ?_)));refine AW.seq ?_;refine AW.rgs rfl fun K hK=>mv rfl rfl (bv rfl (v_bin rfl rfl b_lss) ?_);refine b_nil (hK _ (AW.to (to_le (s':=⟨[(0,slE eInt [x]),(1,hI (n:Int)),(10,.bool (decide ((n:Int)<0)))],H⟩) ⟨leS_get ⟨rfl,rfl,rfl,trivial⟩,fun _ _ h=>h⟩ ?_)));refine AW.cond rfl (fun hc=>?_) (fun hc=>?_)
  · have:=of_decide_eq_true hc
    omega
  clear hc;refine AW.skip ?_;refine AW.rgs rfl fun K hK=>mv rfl rfl (bv rfl (v_lenF rfl rfl ty25 rfl) (bv rfl (v_convI ty3 ty117 rfl) (mv rfl rfl (bv rfl (v_convI ty3 ty117 rfl) ?_))));refine b_op rfl (o_call rfl rfl rfl rfl (ACallD.pure0 (mul1' n hn)) ?_);refine mv rfl rfl (bv rfl (v_extract rfl rfl) (bv rfl (v_extract rfl rfl) (mv rfl rfl (mv rfl rfl ?_))));refine b_nil (hK _ (AW.to (to_le (s':=⟨[(0,slE eInt [x]),(5,.int .u64 0),(6,.int .u64 (n:Int))],H⟩) ⟨leS_get ⟨rfl,rfl,rfl,trivial⟩,fun _ _ h=>h⟩ ?_)));refine AW.seq ?_;refine AW.rgs rfl fun K hK=>mv rfl rfl (bv rfl (v_bin rfl rfl b_gtr) (mv rfl rfl ?_));refine b_T rfl rfl rfl rfl (decide_eq_false (by decide)) (o_val rfl (mv_val rfl rfl).2 ?_);refine b_T rfl rfl rfl rfl rfl (o_val rfl (v_bin rfl rfl b_gtr) ?_);refine bv rfl (v_pickF rfl rfl rfl) ?_;refine b_nil (hK _ (AW.to (to_le (s':=⟨[(0,slE eInt [x]),(6,.int .u64 (n:Int)),(26,.bool (decide ((9223372036854775807:Int)<(n:Int))))],H⟩) ⟨leS_get ⟨rfl,rfl,rfl,trivial⟩,fun _ _ h=>h⟩ ?_)));refine AW.cond rfl (fun hc=>?_) (fun hc=>?_)
  · have:=of_decide_eq_true hc
    omega
  clear hc;refine AW.skip ?_;refine AW.rgs rfl fun K hK=>mv rfl rfl (bv rfl (v_convI ty117 ty3 rfl) ?_);rw [w64 (n:=(n:Int)) (by omega) (by omega)];refine b_op rfl (o_makeE (fid:=1000000+i) eInt (0:Int) (rid i) rfl rfl ty25 rfl rfl ty3 rfl rfl (show 0≤(n:Int)∧(n:Int)≤(n:Int)∧(n:Int)*((8:Nat):Int)≤281474976710656 by omega) (fun v6=>?_));refine mv rfl rfl ?_;refine b_nil (hK _ (AW.to (to_le (s':=⟨[(0,slE eInt [x]),(7,.ar (rid i) v6 eInt.k 0 ((List.replicate (n:Int).toNat (0:Int)).length))],(((rid i),v6,.arr eInt.k 3 (eInt.E (List.replicate (n:Int).toNat (0:Int))))::H)⟩) ⟨leS_get ⟨rfl,rfl,trivial⟩,fun _ _ h=>h⟩ ?_)));simp only [Int.toNat_natCast,List.length_replicate];refine AW.rgs rfl fun K hK=>mv rfl rfl (mv rfl rfl ?_);refine b_op rfl (o_copy (m:=1) (n:=n) (off:=0) (ds:=[hI x]) (zs:=(List.replicate (min 1 n) x++List.replicate (n - min 1 n) (0:Int)).map (HV.int .i64)) rfl rfl rfl ty25 ty3 rfl rfl rfl hget_hd ?_ ?_ ?_ ?_)
  · show 0+n*1≤((List.replicate n (0:Int)).map (HV.int .i64)).length
    simp
  · simp only [asrc,ty25]
    trivial
  · exact repI_first x n
  refine mv rfl rfl ?_;refine b_nil (hK _ (AW.to (to_le (s':=⟨[(7,.ar (rid i) v6 1 0 n),(8,hI ((min 1 n:Nat):Int))],(((rid i),v6,.arr 1 3 ((List.replicate (min 1 n) x++List.replicate (n - min 1 n) (0:Int)).map (HV.int .i64)))::H)⟩) ⟨leS_get ⟨rfl,rfl,trivial⟩,le_shadow⟩ ?_)));refine AW.seq (AW.block ?_)
  refine AW.loopS (fun m:Nat=>⟨[(7,.ar (rid i) v6 1 0 n),(8,hI (m:Int))],(((rid i),v6,.arr 1 3 ((List.replicate m x++List.replicate (n - m) (0:Int)).map (HV.int .i64)))::H)⟩)
    (fun m=>m≤n∧(m=0→n=0)) (fun m=>n - m) (min 1 n) (AS.le_refl _) ⟨by omega,by omega⟩ ?_
  rintro m ⟨hm,hm0⟩
  refine AW.seq ?_;refine AW.rgs rfl fun K hK=>mv rfl rfl (mv rfl rfl (bv rfl (v_lenA rfl rfl ty25 rfl hget_hd) (bv rfl (v_bin rfl rfl b_lss) ?_)));refine b_nil (hK _ (AW.to (to_le (s':=⟨[(7,.ar (rid i) v6 1 0 n),(8,hI (m:Int)),(37,.bool (decide ((m:Int)<(n:Int))))],(((rid i),v6,.arr 1 3 ((List.replicate m x++List.replicate (n - m) (0:Int)).map (HV.int .i64)))::H)⟩) ⟨leS_get ⟨rfl,rfl,rfl,trivial⟩,fun _ _ h=>h⟩ ?_)));refine AW.cond rfl (fun hc=>?_) (fun hc=>?_)
  · have hlt:m<n:=by have:=of_decide_eq_true hc; omega
    refine AW.skip ?_;refine AW.block ?_;refine AW.dy follows fun K hK=>?_
    have hcells:((List.replicate m x++List.replicate (n - m) (0:Int)).map (HV.int .i64)).length=n:=by simp; omega
    refine y_stZ 7 0 rfl rfl ?_
    iterate 3 refine sm rfl rfl ?_
    refine sv rfl (hv:=HV.ar (rid i) v6 1 (0+m*1) (n - m)) (v_sliceA (k:=1) (n:=n) (a:=(m:Int)) (b:=(n:Int)) ty25 es25 rfl rfl rfl (by omega) hget_hd) ?_
    iterate 2 refine sm rfl rfl ?_
    refine sv rfl (hv:=HV.ar (rid i) v6 1 (0+0*1) (m - 0)) (v_sliceA (k:=1) (n:=n) (a:=(0:Int)) (b:=(m:Int)) ty25 es25 rfl rfl rfl (by omega) hget_hd) ?_;refine s_nil ?_;refine y_late (dz:=38) (dq:=45) (x:=.tmp 8) (v:=.int .i64 (m:Int)) (vq:=.int .i64 ((min (m - 0) (n - m):Nat):Int)) (H':=(((rid i),v6,.arr 1 3 ((List.replicate (m+min m (n - m)) x++List.replicate (n - (m+min m (n - m))) (0:Int)).map (HV.int .i64)))::H)) rfl rfl rfl rfl rfl rfl rfl (by decide) (fun sl' H2 hl=>?_) (fun sl' H2 hl=>?_) (fun sl' hl K' hK' hc=>?_) ?_
    · show sget sl' 8=_
      rw [hl 8 (by decide)]; rfl
    · show sget sl' 8=_
      rw [hl 8 (by decide)]; rfl
    · have e41:(⟨sl',(((rid i),v6,.arr 1 3 ((List.replicate m x++List.replicate (n - m) (0:Int)).map (HV.int .i64)))::H)⟩:AS).ev (.tmp 41)=some (.ar (rid i) v6 1 (0+m*1) (n - m)):=by
        show sget sl' 41=_;rw [hl 41 (by decide)]; rfl
      have e44:(⟨sl',(((rid i),v6,.arr 1 3 ((List.replicate m x++List.replicate (n - m) (0:Int)).map (HV.int .i64)))::H)⟩:AS).ev (.tmp 44)=some (.ar (rid i) v6 1 (0+0*1) (m - 0)):=by
        show sget sl' 44=_;rw [hl 44 (by decide)]; rfl
      refine AOp.copy (t:=25) (xt:=25) (x:=.tmp 41) (y:=.tmp 44) (k:=1) (off:=0+m*1) (n:=n - m) (m:=m - 0) (ds:=(((List.replicate m x++List.replicate (n - m) (0:Int)).map (HV.int .i64)).drop (0+0*1)).take ((m - 0)*1)) rfl rfl ty25 rfl ty3 e41 e44 (fun l e=>by cases e) hget_hd ?_ ?_ ?_
      · simp only [asrc,ty25,hget_hd]
        refine ⟨trivial,trivial,?_,trivial,?_⟩
        · rw [hcells]
          show 0+0*1+(m - 0)*1≤n;omega
        trivial
      · rw [hcells]
        show 0+m*1+(n - m)*1≤n;omega
      refine hc _ _ ?_ (fun u=>?_) hK'
      · show hset _ _ _ _=_
        rw [show ∀ ob:AObj,hset (((rid i),v6,.arr 1 3 ((List.replicate m x++List.replicate (n - m) (0:Int)).map (HV.int .i64)))::H) (rid i) v6 ob=(((rid i),v6,ob)::H) from fun ob=>by simp [hset]];have:=repI_half (x:=x) (n:=n) (m:=m) rfl hm;exact congrArg (fun xs=>(((rid i),v6,AObj.arr 1 3 xs)::H)) this
      show sget (AS.put _ (some 45) _).slots u=_;simp only [AS.put,sget_sset,sget]
    have hw:IntKind.wrap .i64 ((m:Int)+((min (m - 0) (n - m):Nat):Int))=((m+min m (n - m):Nat):Int):=by
      rw [w64 (by omega) (by omega)]; omega
    refine y_op rfl rfl rfl rfl (o_val rfl (v_bin rfl rfl b_add) ?_);refine b_nil ?_;refine y_op rfl rfl rfl rfl (o_val rfl (mv_val rfl rfl).2 ?_);refine b_nil ?_;refine y_nil rfl (hK _ ?_);rw [hw];exact ⟨m+min m (n - m),⟨by omega,by omega⟩,by omega,⟨leS_get ⟨rfl,rfl,trivial⟩,fun _ _ h=>h⟩⟩
  have hge:m=n:=by have:=of_decide_eq_false hc; omega
  subst hge;refine AW.exit ?_
  have e0:List.replicate m x++List.replicate (m - m) (0:Int)=List.replicate m x:=by simp
  rw [e0];refine AW.rgs rfl fun K hK=>mv rfl rfl (mv rfl rfl ?_);refine b_nil (hK _ (AW.to (to_le (s':=⟨[(4,.ar (rid i) v6 eInt.k 0 ((List.replicate m x).length))],(((rid i),v6,.arr eInt.k 3 (eInt.E (List.replicate m x)))::H)⟩) ⟨leS_get ⟨arl (by simp),trivial⟩,fun _ _ h=>h⟩ ?_)));exact AW.ret ⟨.inr rfl,resT rfl ⟨_,_,Conv.refl _ _,hKK v6⟩⟩
set_option linter.unusedSimpArgs false
set_option linter.unusedVariables false
def be (n:Nat):List UInt8:=if n=0 then [] else be (n / 256)++[UInt8.ofNat n]
termination_by n
decreasing_by omega
noncomputable def m_subset_key (p0:List (Int)):Option ((List UInt8)) :=
 (loopW (S:=Int × (List UInt8)) (X:=(List UInt8)) (fun a3 =>
   if a3.1<((p0).length:Int) then
    (idx p0 a3.1).bind fun x7 =>
    (m_strconv_Itoa x7).bind fun x9 =>
    if x9.length+[32].length≤maxLen then
     if fits 1 (a3.2.length+(x9++[32]).length) then
      some (Stp.next (IntKind.wrap .i64 (a3.1+1),a3.2++(x9++[32])))
     else none
    else none
   else
    some (Stp.exit a3.2)) (0,([]:List UInt8))).bind fun a14 =>
 some a14
noncomputable def m_subset_build (p0:TLabelsStatesEdges) (p1:List (Int)):Option (TLabelsStatesEdges × (List (List (Int))) × Int) :=
 (m_subset_key p1).bind fun x3 =>
 (m_slices_Clone_Lint_int p1).bind fun x6 =>
 lpO (loopW (S:=(List TFromLabelTo) × Int × (List (List UInt8 × Int)) × (List (List (Int)))) (X:=Ou ((List TFromLabelTo) × (List (List (Int)))) (TLabelsStatesEdges × (List (List (Int))) × Int)) (fun a12 =>
   if a12.2.1 < (((a12.2.2.2).length:Nat):Int) then
    (idx a12.2.2.2 a12.2.1).bind fun x16 =>
    (idx a12.2.2.2 a12.2.1).bind fun x18 =>
    jp (fun (a20:(List TFromLabelTo) × (List (List UInt8 × Int)) × (List (List (Int)))) =>
     jp (fun (a23:Bool) =>
      if a23=true then
       some (Stp.exit (Ou.ret ((0,0,[]),[],4)))
      else
       some (Stp.next (a20.1,IntKind.wrap .i64 (a12.2.1+1),a20.2.1,a20.2.2)))
      fun k25 =>
      if 64<(((a20.2.2).length:Nat):Int) then
       k25 true
      else
       k25 (decide (1024<(((a20.1).length:Nat):Int))))
     fun k22 =>
     (loopW (S:=Int × (List TFromLabelTo) × (List (List UInt8 × Int)) × (List (List (Int)))) (X:=(List TFromLabelTo) × (List (List UInt8 × Int)) × (List (List (Int)))) (fun a28 =>
       if a28.1<p0.1 then
        jp (fun (a32:(List TFromLabelTo) × (List (List UInt8 × Int)) × (List (List (Int)))) =>
         some (Stp.next (IntKind.wrap .i64 (a28.1+1),a32.1,a32.2.1,a32.2.2)))
         fun k34 =>
         (m_graph_Step p0 x18 a28.1).bind fun x35 =>
         if 0 < ((x35.1).length:Int) then
          jp (fun (a37:(List TFromLabelTo) × (List (List UInt8 × Int)) × (List (List (Int)))) =>
           k34 (a37.1,a37.2.1,a37.2.2))
           fun k39 =>
           (m_subset_key x35.1).bind fun x40 =>
           jp (fun (a42:Int × (List (List UInt8 × Int)) × (List (List (Int)))) =>
            if fits 24 ((a28.2.1:List TFromLabelTo).length+([(a12.2.1,a28.1,a42.1)]).length) then
             k39 (a28.2.1++[(a12.2.1,a28.1,a42.1)],a42.2.1,a42.2.2)
            else none)
            fun k44 =>
            if (!((mlook x40 a28.2.2.1).isSome))=true then
             (m_subset_key x35.1).bind fun x47 =>
             if fits 24 ((a28.2.2.2:List (List (Int))).length+([x35.1]).length) then
              k44 ((((a28.2.2.2).length:Nat):Int),mputN x47 (((a28.2.2.2).length:Nat):Int) a28.2.2.1,a28.2.2.2++[x35.1])
             else none
            else
             k44 ((mlook x40 a28.2.2.1).getD 0,a28.2.2.1,a28.2.2.2)
         else
          k34 (a28.2.1,a28.2.2.1,a28.2.2.2)
       else
        some (Stp.exit (a28.2.1,a28.2.2.1,a28.2.2.2))) (0,a12.1,a12.2.2.1,a12.2.2.2)).bind fun a51 =>
     k22 (a51.1,a51.2.1,a51.2.2)
   else
    some (Stp.exit (Ou.go (a12.1,a12.2.2.2)))) (([]:List TFromLabelTo),0,mputN x3 0 ([]:List (List UInt8 × Int)),[x6])) (fun a54 =>
   some ((p0.1,(((a54.2).length:Nat):Int),a54.1),a54.2,0)) some
noncomputable def m_subset_Build (p0:TLabelsStatesEdges):Option (TLabelsStatesEdges × (List (List (Int))) × Int) :=
 (m_graph_Check p0).bind fun x2 =>
 if x2≠0 then
  some ((0,0,[]),[],1)
 else
  if p0.2.1=0 then
   some ((p0.1,0,[]),[],0)
  else
   if 0≤(p0.2.1:Int)∧(p0.2.1:Int)≤p0.2.1∧(p0.2.1:Int)*8≤281474976710656 then
    (loopW (S:=Int × (List Int)) (X:=(List Int)) (fun a6 =>
      if a6.1<(((List.replicate (p0.2.1).toNat (0:Int)).length:Nat):Int) then
       (idx a6.2 a6.1).bind fun x10 =>
       some (Stp.next (IntKind.wrap .i64 (a6.1+1),(a6.2).set (a6.1).toNat a6.1))
      else
       some (Stp.exit a6.2)) (0,List.replicate (p0.2.1).toNat (0:Int))).bind fun a12 =>
    (m_subset_build p0 a12).bind fun x14 =>
    some (x14.1,x14.2.1,x14.2.2)
   else none
noncomputable def m_slices_Equal_Lstring_string (p0:List (List UInt8)) (p1:List (List UInt8)):Option (Bool) :=
 if ((p0).length:Int)≠((p1).length:Int) then
  some false
 else
  lpO (loopW (S:=Int) (X:=Ou (Unit) (Bool)) (fun a1 =>
    if a1<((p0).length:Int) then
     (idx p0 a1).bind fun x5 =>
     (idx p1 a1).bind fun x7 =>
     if x5≠x7 then
      some (Stp.exit (Ou.ret false))
     else
      some (Stp.next (IntKind.wrap .i64 (a1+1)))
    else
     some (Stp.exit (Ou.go ()))) 0) (fun a9 =>
    some true) some
noncomputable def m_ref09_Great (p0:TLabelsStatesEdges):Option (Bool) :=
 jp (fun (a1:Bool) =>
  some a1)
  fun k3 =>
  if 30<((p0.2.2).length:Int) then
   k3 true
  else
   if 10<p0.2.1 then
    k3 (decide (p0.2.1≤64))
   else
    k3 false
def setR (R:List (List Int)) (e:TFromLabelTo):List (List Int):=R.set e.1.toNat ((R.getD e.1.toNat []).set e.2.1.toNat e.2.2)
def rowsM (g:TLabelsStatesEdges) (labels:Int) (k:Nat):List (List Int):=(g.2.2.take k).foldl setR (List.replicate g.2.1.toNat (List.replicate labels.toNat (-1)))
def ofOk (g:TLabelsStatesEdges) (labels:Int):Prop:=(0≤labels∧labels≤1000)∧(0≤g.2.1∧g.2.1≤1000)∧g.2.2.length≤100000∧∀ e∈g.2.2,(0≤e.1∧e.1<g.2.1)∧(0≤e.2.1∧e.2.1<labels)
open Classical in
noncomputable def m_minimal_of (g:TLabelsStatesEdges) (labels:Int):Option (List (List Int)):=if ofOk g labels then some (rowsM g labels g.2.2.length) else none
def kfST (p:Int × Int):Value:=.agg #[.int .i64 p.1,.int .i64 p.2]
def wfST (p:Int × Int):Bool:=(Lit.int .i64 p.1).wf && (Lit.int .i64 p.2).wf
theorem kTST:KeyT Tryz.prog 106 (fun p:Int × Int=>HV.agg [hI p.1,hI p.2]) kfST wfST where
  law:=Go.Maps.Keyed.of_law (deep_law (m:=3) (by decide) (by kernel_rfl) (by kernel_rfl) (by kernel_rfl))
  inj:=by
    rintro ⟨a,b⟩ ⟨c,d⟩ h
    simp only [kfST,Value.agg.injEq,Array.mk.injEq,List.cons.injEq,Value.int.injEq,true_and,and_true] at h;obtain ⟨rfl,rfl⟩:=h;rfl
  kv:=by
    rintro ⟨a,b⟩ h
    have hb:(Lit.int .i64 a).wf=true∧(Lit.int .i64 b).wf=true:=by
      have:=h;unfold wfST at this;rw [Bool.and_eq_true] at this;exact this
    obtain ⟨h1,h2⟩:=hb
    have hk:hkey Tryz.prog (Tryz.prog.types.size+1) 106 [hI a,hI b]=some [Lit.int .i64 a,Lit.int .i64 b]:=by kernel_rfl
    have hu:(match Tryz.prog.underlying 106 with | some (.struct _)=>true | _=>false)=true:=by kernel_rfl
    have hf:(Tryz.prog.keyType 106 && (Value.agg #[.int .i64 a,.int .i64 b]).formed Tryz.prog 106)=true:=by kernel_rfl
    refine ⟨?_,?_⟩
    · rintro w μ x ⟨_,vs,rfl,x1,_,rfl,⟨rfl,_⟩,x2,_,rfl,⟨rfl,_⟩,rfl⟩
      rfl
    have hr:RepL default (⟨0,fun _=>none,fun _=>False⟩:Mu) [hI a,hI b] [.int .i64 a,.int .i64 b]:=⟨_,_,rfl,⟨rfl,h1⟩,_,_,rfl,⟨rfl,h2⟩,rfl⟩;have hl:=hkey_lits hr hk;unfold keyOf kfST;split
    · rename_i he; rw [he] at hu; cases hu
    · rw [if_pos hf]
      show ∃ l,Option.map _ (Tryz.prog.keyLits _ _ [.int .i64 a,.int .i64 b])=some l;rw [hl];exact ⟨_,rfl⟩
    rename_i h1 h2
    split at hu
    · rename_i fs he; exact absurd he (h2 fs)
    cases hu
abbrev hpO (ov:Nat) (cs:List HV) (rs:Rws):Heap:=(60011,ov,.arr 1 25 cs)::rowsO 0 rs
theorem hpO_rid {ov:Nat} {cs:List HV} {rs:Rws} (i:Nat):hget (hpO ov cs rs) (rid i)=hget (rowsO 0 rs) (rid i):=hget_tl (by unfold rid; omega)
theorem noneH_nil:∀ D:Heap,noneH [] D
  | []=>trivial
  | (_,_,_)::D=>⟨rfl,noneH_nil D⟩
theorem splice_row {rs:Rws} {n:Nat} {x z:HV} (h:rs.length<n):splice (hdr 0 rs++List.replicate (n - rs.length) z) (((rs.length:Int)).toNat*1) [x]=hdr 0 rs++[x]++List.replicate (n - (rs.length+1)) z:=by
  have e:((rs.length:Int)).toNat*1=(hdr 0 rs).length:=by rw [hdr_len]; omega
  obtain ⟨m,hm⟩:∃ m,n - rs.length=m+1:=⟨n - rs.length - 1,by omega⟩
  have hm2:n - (rs.length+1)=m:=by omega
  rw [e,hm,hm2,List.replicate_succ];unfold splice;simp
theorem frz_of {D:Heap} {ov n:Nat} {rs:Rws} (hn:n=rs.length) (h:hget D 60011=some (ov,.arr 1 25 (hdr 0 rs))) (hr:∀ i v l,rs[i]?=some (v,l)→hget D (rid i)=some (v,.arr 1 3 (eInt.E l))):frz 3 D (HV.ar 60011 ov 1 0 n)=slE (eSl eInt) (rs.map (·.2)):=by
  have e:=frz_rows (D:=D) rs 0 fun i v l hi=>by rw [Nat.zero_add]; exact hr i v l hi
  have hl:=hdr_len 0 rs;rw [frz,h];simp only;rw [if_pos ⟨trivial,by omega⟩,List.drop_zero,Nat.mul_one,hn,← hl,List.take_length,e];show HV.sl 1 _ _=HV.sl 1 (rs.map (·.2)).length _;rw [List.length_map,hl];rfl
set_option maxHeartbeats 4000000 in
set_option maxRecDepth 100000 in
theorem w_minimal_of {p0:TLabelsStatesEdges} {p1:Int} {r:List (List Int)} (h:m_minimal_of p0 p1=some r):Pure Tryz.prog 60 [gA p0,hI p1] (· = slE (eSl eInt) r):=by
  unfold m_minimal_of at h;by_cases hok:ofOk p0 p1
  case neg=>rw [if_neg hok] at h; cases h
  rw [if_pos hok] at h;obtain rfl:=oi h;obtain ⟨L0,S0,E⟩:=p0;obtain ⟨⟨hl0,hl1⟩,⟨hs0,hs1⟩,hE,hed⟩:=hok;simp only at hl0 hl1 hs0 hs1 hE hed;obtain ⟨Ln,rfl⟩:=Int.eq_ofNat_of_zero_le hl0;obtain ⟨Sn,rfl⟩:=Int.eq_ofNat_of_zero_le hs0;clear hl0 hs0
  have hLn:Ln≤1000000:=by omega
  have hN:(List.replicate Sn ()).length=Sn:=List.length_replicate;refine Pure.of_body Tryz.func60 rfl rfl (lb rfl) fun hf=>?_;clear hf;unfold Tryz.f60;dsimp only [enumS,Nat.reduceAdd];refine AW.rgs rfl fun K hK=>b_op rfl (o_box rfl rfl rfl ?_);refine mv rfl rfl ?_;refine bf hK ⟨[(1,hI (Ln:Int)),(2,.fptr [hI L0,hI (Sn:Int),slE eFromLabelTo E] 0)],[]⟩ ?_;refine AW.rgs rfl fun K hK=>bv rfl (v_fieldAddrF fo24_1 rfl) (bv rfl (v_loadF ty3 rfl (l_lit rfl rfl)) ?_);refine b_op rfl (o_makeE (fid:=60) (encM fun _:Unit=>(HV.v (.slice none 0 0))) () 60011 rfl rfl ty103 rfl rfl ty25 rfl rfl ⟨by omega,by omega,by show (Sn:Int)*24≤_; omega⟩ (fun ov=>?_));refine mv rfl rfl ?_
  have hc0:(encM fun _:Unit=>(HV.v (.slice none 0 0))).E (List.replicate Sn ())=hdr 0 []++List.replicate (Sn - ([]:Rws).length) (HV.v (.slice none 0 0)):=by
    show (List.replicate Sn ()).map _=_;rw [List.map_replicate];rfl
  refine b_nil (hK _ (AW.to (to_le (s':=⟨[(1,hI (Ln:Int)),(2,.fptr [hI L0,hI (Sn:Int),slE eFromLabelTo E] 0),(5,.ar 60011 ov 1 0 (List.replicate Sn ()).length)],hpO ov ((hdr 0 [])++List.replicate (Sn - [].length) (HV.v (.slice none 0 0))) []⟩) ⟨leS_get ⟨rfl,rfl,rfl,trivial⟩,leH_get ⟨by rw [← hc0]; rfl,trivial⟩⟩ ?_)));clear hK K hc0;refine AW.seq ?_;refine AW.rgs rfl fun K hK=>mv rfl rfl (bv rfl (v_lenA rfl rfl ty103 rfl rfl) (mv rfl rfl ?_));refine b_nil (hK _ (AW.to (to_le (s':=⟨[(1,hI (Ln:Int)),(2,.fptr [hI L0,hI (Sn:Int),slE eFromLabelTo E] 0),(5,.ar 60011 ov 1 0 (List.replicate Sn ()).length),(13,hI (((List.replicate Sn ()).length:Nat):Int)),(14,hI 0)],hpO ov ((hdr 0 [])++List.replicate (Sn - [].length) (HV.v (.slice none 0 0))) []⟩) ⟨leS_get ⟨rfl,rfl,rfl,rfl,rfl,trivial⟩,fun _ _ h=>h⟩ ?_)));refine AW.block ?_
  refine AW.loopS (fun a:Rws=>⟨[(1,hI (Ln:Int)),(2,.fptr [hI L0,hI (Sn:Int),slE eFromLabelTo E] 0),(5,.ar 60011 ov 1 0 (List.replicate Sn ()).length),(13,hI (((List.replicate Sn ()).length:Nat):Int)),(14,hI (a.length:Int))],hpO ov ((hdr 0 a)++List.replicate (Sn - a.length) (HV.v (.slice none 0 0))) a⟩)
    (fun a=>a.length≤Sn∧a.map (·.2)=List.replicate a.length (List.replicate Ln (-1))) (fun a=>Sn - a.length) [] (AS.le_refl _) ⟨by simp,rfl⟩ ?_
  rintro rs ⟨hrl,hrs⟩
  refine AW.rgs rfl fun K hK=>bv rfl (v_bin rfl rfl b_lss) ?_;refine b_nil (hK _ (AW.to (to_le (s':=⟨[(1,hI (Ln:Int)),(2,.fptr [hI L0,hI (Sn:Int),slE eFromLabelTo E] 0),(5,.ar 60011 ov 1 0 (List.replicate Sn ()).length),(13,hI (((List.replicate Sn ()).length:Nat):Int)),(14,hI (rs.length:Int)),(15,.bool (decide ((rs.length:Int)<(((List.replicate Sn ()).length:Nat):Int))))],hpO ov ((hdr 0 rs)++List.replicate (Sn - rs.length) (HV.v (.slice none 0 0))) rs⟩) ⟨leS_get ⟨rfl,rfl,rfl,rfl,rfl,rfl,trivial⟩,fun _ _ h=>h⟩ ?_)));refine AW.cseq rfl (fun hc=>?_) (fun hc=>?_)
  · have hc:=of_decide_eq_true hc
    have hlt:rs.length<Sn:=by omega
    refine AW.skip ?_;refine AW.seq (AW.block ?_);refine AW.rgs rfl fun K hK=>mv rfl rfl (mv rfl rfl ?_);refine b_nil (hK _ (AW.to (to_le (s':=⟨[(1,hI (Ln:Int)),(2,.fptr [hI L0,hI (Sn:Int),slE eFromLabelTo E] 0),(5,.ar 60011 ov 1 0 (List.replicate Sn ()).length),(6,hI (rs.length:Int)),(13,hI (((List.replicate Sn ()).length:Nat):Int)),(14,hI (rs.length:Int))],hpO ov ((hdr 0 rs)++List.replicate (Sn - rs.length) (HV.v (.slice none 0 0))) rs⟩) ⟨leS_get ⟨rfl,rfl,rfl,rfl,rfl,rfl,trivial⟩,fun _ _ h=>h⟩ ?_)));refine AW.rg rfl fun K hK=>mv rfl rfl (mv rfl rfl ?_);refine b_op rfl (o_bsl rfl rfl (as_of (cs:=[hI (-1)]) ty25 ty3 rfl rfl rfl rfl rfl) ?_);refine mv rfl rfl ?_;refine b_op rfl (o_callA rfl rfl rfl rfl (repI_own (-1) hLn rs.length fun vr=>?_));have hgo:hget ((rid rs.length,vr,AObj.arr 1 3 (eInt.E (List.replicate Ln (-1))))::hpO ov ((hdr 0 rs)++List.replicate (Sn - rs.length) (HV.v (.slice none 0 0))) rs) 60011=some (ov,.arr 1 25 (hdr 0 rs++List.replicate (Sn - rs.length) (HV.v (.slice none 0 0)))):=(hget_tl (by unfold rid; omega)).trans hget_hd;refine bv rfl (v_idxA ty103 es103 rfl rfl ⟨by omega,by omega⟩ hgo) ?_;refine b_op rfl (o_store (cs:=[.ar (rid rs.length) vr 1 0 (List.replicate Ln (-1:Int)).length]) (zs:=hdr 0 rs++[HV.ar (rid rs.length) vr 1 0 (List.replicate Ln (-1:Int)).length]++List.replicate (Sn - (rs.length+1)) (HV.v (.slice none 0 0))) rfl rfl rfl ty25 rfl hgo rfl (Nat.ble_eq_true_of_le (by simp only [List.length_append,List.length_replicate,hdr_len,List.length_singleton]; omega)) (splice_row hlt) ?_);refine b_nil (hK _ ?_);refine AW.rg rfl fun K hK=>bv rfl (v_bin rfl rfl b_add) (mv rfl rfl ?_);refine b_nil (hK _ ?_);refine ⟨rs++[(vr,List.replicate Ln (-1))],⟨by simp; omega,?_⟩,by simp; omega,?_⟩
    · simp only [List.map_append,hrs,List.map_cons,List.map_nil,List.length_append,List.length_singleton,List.replicate_succ']
    have e1:hdr 0 (rs++[(vr,List.replicate Ln (-1))])=hdr 0 rs++[HV.ar (rid rs.length) vr 1 0 (List.replicate Ln (-1:Int)).length]:=by rw [hdr_app,Nat.zero_add]
    have e2:IntKind.wrap .i64 ((rs.length:Int)+1)=((rs++[(vr,List.replicate Ln (-1:Int))]).length:Int):=by rw [w64 (by omega) (by omega)]; simp
    have e3:(rs++[(vr,List.replicate Ln (-1:Int))]).length=rs.length+1:=by simp
    refine ⟨leS_get ⟨rfl,rfl,rfl,rfl,by rw [← e2]; rfl,trivial⟩,leH_get ⟨by rw [e1,e3]; rfl,leH_rows _ 0 fun i v l hi=>?_⟩⟩;rw [hget_tl (by unfold rid; omega),Nat.zero_add];have h1:=rows_le (rs:=rs) (v:=vr) (l:=List.replicate Ln (-1)) (H:=[]) (fun _=>rfl) (rid i) (v,.arr 1 3 (eInt.E l)) (by have:=hget_rows 0 hi; rwa [Nat.zero_add] at this);by_cases e:i=rs.length
    · subst e
      rw [hget_hd] at h1 ⊢;exact h1
    rw [hget_tl (fun x=>by have:=rid_inj x; omega)] at h1 ⊢;rw [hpO_rid];exact h1
  have hc:=of_decide_eq_false hc
  have hrl2:rs.length=Sn:=by omega
  have hcells:hdr 0 rs++List.replicate (Sn - rs.length) (HV.v (.slice none 0 0))=hdr 0 rs:=by rw [hrl2,Nat.sub_self]; exact List.append_nil _
  refine AW.exit ?_;refine AW.seq ?_;refine AW.rgs rfl fun K hK=>bv rfl (v_fieldAddrF fo24_2 rfl) (bv rfl (v_loadF ty22 rfl (l_lit rfl rfl)) (bv rfl (v_lenF rfl rfl ty22 rfl) (mv rfl rfl ?_)));refine b_nil (hK _ (AW.to (to_le (s':=⟨[(2,.fptr [hI L0,hI (Sn:Int),slE eFromLabelTo E] 0),(5,.ar 60011 ov 1 0 (List.replicate Sn ()).length),(25,slE eFromLabelTo E),(26,hI (E.length:Int)),(27,hI 0)],hpO ov (hdr 0 rs) rs⟩) ⟨leS_get ⟨rfl,rfl,rfl,rfl,rfl,trivial⟩,leH_get ⟨by rw [hcells]; rfl,leH_rows _ 0 fun i v l hi=>?_⟩⟩ ?_)))
  · show hget (hpO ov ((hdr 0 rs)++List.replicate (Sn - rs.length) (HV.v (.slice none 0 0))) rs) (rid (0+i))=_
    rw [Nat.zero_add,hpO_rid];have:=hget_rows 0 hi
    rwa [Nat.zero_add] at this
  clear hK K hcells;refine AW.block ?_
  refine AW.loopS (fun a:Nat × Rws=>⟨[(2,.fptr [hI L0,hI (Sn:Int),slE eFromLabelTo E] 0),(5,.ar 60011 ov 1 0 (List.replicate Sn ()).length),(25,slE eFromLabelTo E),(26,hI (E.length:Int)),(27,hI (a.1:Int))],hpO ov (hdr 0 a.2) a.2⟩)
    (fun a=>a.1≤E.length∧a.2.length=Sn∧(∀ (i v:Nat) (l:List Int),a.2[i]?=some (v,l)→l.length=Ln)∧a.2.map (·.2)=rowsM (L0,(Sn:Int),E) (Ln:Int) a.1) (fun a=>E.length - a.1) (0,rs) ⟨leS_get ⟨rfl,rfl,rfl,rfl,rfl,trivial⟩,fun _ _ h=>h⟩ ⟨Nat.zero_le _,hrl2,?_,?_⟩ ?_
  · intro i v l hi
    have:(rs.map (·.2))[i]?=some l:=by rw [List.getElem?_map,hi]; rfl
    rw [hrs] at this;have hm:=List.mem_of_getElem? this;rw [List.eq_of_mem_replicate hm];simp
  · show rs.map (·.2)=rowsM _ _ 0
    rw [hrs,hrl2];rfl
  clear hrs hrl hrl2 hc
  rintro ⟨k,rs⟩ ⟨hk,hrl,hrw,hrs⟩
  simp only at hk hrl hrw hrs;refine AW.rgs rfl fun K hK=>bv rfl (v_bin rfl rfl b_lss) ?_;refine b_nil (hK _ (AW.to (to_le (s':=⟨[(2,.fptr [hI L0,hI (Sn:Int),slE eFromLabelTo E] 0),(5,.ar 60011 ov 1 0 (List.replicate Sn ()).length),(25,slE eFromLabelTo E),(26,hI (E.length:Int)),(27,hI (k:Int)),(28,.bool (decide ((k:Int)<(E.length:Int))))],hpO ov (hdr 0 rs) rs⟩) ⟨leS_get ⟨rfl,rfl,rfl,rfl,rfl,rfl,trivial⟩,fun _ _ h=>h⟩ ?_)));refine AW.cseq rfl (fun hc=>?_) (fun hc=>?_)
  · have hc:=of_decide_eq_true hc
    have hkl:k<E.length:=by omega
    obtain ⟨b1,b2⟩:=hed _ (List.getElem_mem hkl)
    have hidx:idx E (k:Int)=some E[k]:=by rw [idx_nat,List.getElem?_eq_getElem hkl]
    have hfl:E[k].1.toNat<rs.length:=by omega
    obtain ⟨⟨rv,rl⟩,hrow⟩:∃ b,rs[E[k].1.toNat]?=some b:=⟨_,List.getElem?_eq_getElem hfl⟩;have hrlen:=hrw _ _ _ hrow
    have hhd:(hdr 0 rs)[E[k].1.toNat*1]?=some (HV.ar (rid E[k].1.toNat) rv 1 0 rl.length):=by
      have:=hdr_get 0 hrow;rw [Nat.zero_add] at this;rw [Nat.mul_one];exact this
    have hfj:0≤E[k].1∧E[k].1<(((List.replicate Sn ()).length:Nat):Int):=by omega
    have hlj:0≤E[k].2.1∧E[k].2.1<(rl.length:Int):=by omega
    refine AW.skip ?_;refine AW.seq (AW.block ?_);refine AW.rgs rfl fun K hK=>bv rfl (v_idxF ty22 es22 rfl rfl (idx_lt hidx)) (bv rfl (v_loadF ty55 rfl (l_agg eFromLabelTo hidx rfl rfl)) ?_);refine b_op rfl (o_alloc (fid:=60) (zs:=[hI 0,hI 0,hI 0]) 60008 rfl rfl ty55 rfl (fun v8=>?_));refine b_op rfl (o_store (cs:=cFromLabelTo E[k]) (zs:=cFromLabelTo E[k]) rfl rfl rfl ty55 rfl rfl rfl rfl rfl ?_);refine b_nil (hK _ (AW.to (to_le (s':=⟨[(2,.fptr [hI L0,hI (Sn:Int),slE eFromLabelTo E] 0),(5,.ar 60011 ov 1 0 (List.replicate Sn ()).length),(8,.ptr 60008 v8 0),(25,slE eFromLabelTo E),(26,hI (E.length:Int)),(27,hI (k:Int))],(60008,v8,.arr 3 55 (cFromLabelTo E[k]))::hpO ov (hdr 0 rs) rs⟩) ⟨leS_get ⟨rfl,rfl,rfl,rfl,rfl,rfl,trivial⟩,le_shadow⟩ ?_)))
    have hrg:hget ((60008,v8,.arr 3 55 (cFromLabelTo E[k]))::hpO ov (hdr 0 rs) rs) (rid E[k].1.toNat)=some (rv,.arr 1 3 (eInt.E rl)):=by
      rw [hget_tl (by unfold rid; omega),hpO_rid];have:=hget_rows 0 hrow
      rwa [Nat.zero_add] at this
    refine AW.dy follows fun K hK=>?_;refine y_st 9 rfl rfl ?_;refine sm rfl rfl ?_;refine sv rfl (v_fieldAddrP fo55_0 rfl rfl) ?_;refine sv rfl (v_loadP ty3 rfl rfl (l_lit rfl rfl)) ?_;refine sv rfl (v_idxA ty103 es103 rfl rfl hfj rfl) ?_;refine sv rfl (v_loadP ty25 rfl rfl (l_lit rfl hhd)) ?_;refine sv rfl (v_fieldAddrP fo55_1 rfl rfl) ?_;refine sv rfl (v_loadP ty3 rfl rfl (l_lit rfl rfl)) ?_;refine sv rfl (v_fieldAddrP fo55_2 rfl rfl) ?_;refine sv rfl (v_loadP ty3 rfl rfl (l_lit rfl rfl)) ?_;refine s_nil ?_;refine y_op rfl rfl rfl rfl (o_val rfl (v_idxA ty25 es25 rfl rfl hlj hrg) ?_);refine b_nil ?_;refine y_op rfl rfl rfl rfl (o_storeE eInt (l:=rl) (j:=E[k].2.1) (v:=E[k].2.2) rfl rfl rfl ty3 rfl hrg rfl hlj ?_);refine b_nil ?_;refine y_nil rfl (hK _ ?_);refine AW.rg rfl fun K hK=>bv rfl (v_bin rfl rfl b_add) (mv rfl rfl ?_);refine b_nil (hK _ ?_);obtain ⟨e1,e2⟩:=rows_set hrow (l':=rl.set E[k].2.1.toNat E[k].2.2) (by simp);refine ⟨(k+1,rs.set E[k].1.toNat (rv,rl.set E[k].2.1.toNat E[k].2.2)),⟨by simp only; omega,by simp only [List.length_set]; exact hrl,?_,?_⟩,by simp only; omega,?_⟩
    · intro i v l hi
      simp only at hi;by_cases e:E[k].1.toNat=i
      · subst e
        rw [List.getElem?_set_self hfl] at hi;cases hi;rw [List.length_set]; exact hrlen
      rw [List.getElem?_set_ne e] at hi;exact hrw i v l hi
    · show (rs.set _ _).map (·.2)=rowsM _ _ (k+1)
      have es:rowsM (L0,(Sn:Int),E) (Ln:Int) (k+1)=setR (rowsM (L0,(Sn:Int),E) (Ln:Int) k) E[k]:=by
        unfold rowsM;simp only;rw [← List.take_append_getElem hkl,List.foldl_append];rfl
      rw [es,← hrs,List.map_set];unfold setR
      congr 2
      rw [List.getD_eq_getElem?_getD,List.getElem?_map,hrow];rfl
    have e3:IntKind.wrap .i64 ((k:Int)+1)=((k+1:Nat):Int):=by rw [w64 (by omega) (by omega)]; omega
    simp only [e1];refine ⟨leS_get ⟨rfl,rfl,rfl,rfl,by rw [← e3]; rfl,trivial⟩,leH_get ⟨by rw [hget_tl (by unfold rid; omega)]; rfl,leH_rows _ 0 fun i v l hi=>?_⟩⟩;have h1:=e2 _ _ (hget_rows 0 hi);rw [Nat.zero_add] at h1;show hget ((rid E[k].1.toNat,rv,AObj.arr 1 3 (eInt.E (rl.set E[k].2.1.toNat E[k].2.2)))::(60008,v8,AObj.arr 3 55 (cFromLabelTo E[k]))::hpO ov (hdr 0 rs) rs) (rid (0+i))=_;rw [Nat.zero_add];by_cases e:i=E[k].1.toNat
    · subst e
      rw [hget_hd] at h1 ⊢;exact h1
    rw [hget_tl (fun x=>e (rid_inj x))] at h1 ⊢;rw [hget_tl (by unfold rid; omega),hpO_rid];exact h1
  have hc:=of_decide_eq_false hc
  have hkE:k=E.length:=by omega
  subst hkE;refine AW.exit ?_;refine AW.rgs rfl fun K hK=>mv rfl rfl (mv rfl rfl ?_);refine b_nil (hK _ (AW.to (to_le (s':=⟨[(4,.ar 60011 ov 1 0 (List.replicate Sn ()).length)],hpO ov (hdr 0 rs) rs⟩) ⟨leS_get ⟨rfl,trivial⟩,fun _ _ h=>h⟩ ?_)))
  have hfz:=frz_of (D:=hpO ov (hdr 0 rs) rs) (ov:=ov) (n:=(List.replicate Sn ()).length) (rs:=rs) (by omega) hget_hd fun i v l hi=>by
    rw [hpO_rid];have:=hget_rows 0 hi
    rwa [Nat.zero_add] at this
  refine AW.to (to_frz 3 (hpO ov (hdr 0 rs) rs) ⟨[(4,slE (eSl eInt) (rs.map (·.2)))],[]⟩ ⟨⟨_,rfl,hfz⟩,trivial⟩ trivial ⟨rfl,leH_rows _ 0 fun i v l hi=>?_⟩ (noneH_nil _) ?_)
  · rw [Nat.zero_add,hpO_rid]
    have:=hget_rows 0 hi
    rwa [Nat.zero_add] at this
  refine AW.ret ?_;rw [hrs];exact ret_pure (.inr rfl) (resT rfl rfl) rfl (clean_slE fun _ _=>⟨clean_slE fun _ _=>⟨trivial,trivial⟩,trivial⟩)
end Go.AW
namespace Go.Proofs
open Go
theorem Tryz.bld_lies (n:Nat) (hn:2≤n):liesAt Tryz.prog Tryz.prog.depth 124 (n / Tryz.prog.cellsOf 124) 0 124 1=true:=by
 have hc:Tryz.prog.cellsOf 124=2:=by kernel_rfl
 have hd:Tryz.prog.depth=(2*(Tryz.prog.types.size+Made.depth)+1)+1:=rfl;rw [hd];simp only [liesAt,Bool.or_eq_true];left;rw [hd]
 have:1≤n / 2:=by omega
 simp [rowAt,hc,sameLayout,this]
set_option maxHeartbeats 1000000 in
set_option maxRecDepth 100000 in
theorem Tryz.copyCheck_fresh (b n:Nat) (w:World) (h0:w.cell? ⟨b,0,none⟩=some (.pointer none)) (hsh:w.shape? b=some (124,n)) (hn:2≤n) (hfz:w.frozen? ⟨b,0,none⟩=false) :
  Calls Tryz.prog 100 #[.pointer (some ⟨b,0,none⟩)] w fun e w'=>e=.returned (.tuple #[])∧w'=w.setCell ⟨b,0,none⟩ (.pointer (some ⟨b,0,none⟩)):=by
 obtain ⟨j,hj,hjs⟩:=Option.map_eq_some_iff.1 (show (Tryz.prog.info? 124).map (·.size)=some 2 by kernel_rfl);have hlies:=Tryz.bld_lies n hn
 go_enter Tryz.func100,Tryz.ntmps100
 go_wp2
 rw [Lib.run_to_unsafe w ⟨b,0,none⟩ Tryz.underlying121 Tryz.underlying174 hj (by rw [hjs]; decide) hsh (by show 0<n; omega)];simp only [Result.andThen];rw [Oper.upon_value]
 go_wp2
 rw [run_callFunc_extern Tryz.func129 (by kernel_rfl) (by kernel_rfl) (by kernel_rfl) (e:=Extern.AbiNoEscape.same) (by kernel_rfl),Lib.run_noEscape];simp only [Result.andThen];rw [Oper.upon_value]
 go_wp2
 rw [Lib.run_from_unsafe w ⟨b,0,none⟩ Tryz.underlying174 Tryz.underlying121 hj hsh hlies];simp only [Result.andThen];rw [Oper.upon_value]
 go_wp2
 go_end0
 exact ⟨rfl,rfl⟩
set_option maxHeartbeats 1000000 in
set_option maxRecDepth 100000 in
theorem Tryz.copyCheck_used (b:Nat) (w:World) (h0:w.cell? ⟨b,0,none⟩=some (.pointer (some ⟨b,0,none⟩))) :
  Calls Tryz.prog 100 #[.pointer (some ⟨b,0,none⟩)] w fun e w'=>e=.returned (.tuple #[])∧w'=w:=by
 obtain ⟨j,hj,_⟩:=Option.map_eq_some_iff.1 (show (Tryz.prog.info? 124).map (·.size)=some 2 by kernel_rfl)
 go_enter Tryz.func100,Tryz.ntmps100
 go_wp2
 rw [Lib.run_neq_ptr_same w _ Tryz.underlying121 hj]
 go_wp2
 go_end0
 exact ⟨rfl,rfl⟩
end Go.Proofs
namespace Go.AW
open Go Go.Proofs Go.Lib
def bldP (u:Bool) (id ver:Nat):HV:=if u then .ptr id ver 0 else .v (.pointer none)
theorem c_copyCheck {H:Heap} {K:HV→Heap→Prop} {id ver:Nat} {u:Bool} {s:HV} (hg:hget H id=some (ver,.arr 2 124 [bldP u id ver,s])) (hK:K (.tup []) ((id,ver,.arr 2 124 [.ptr id ver 0,s])::H)) :
  ACall Tryz.prog 100 [.ptr id ver 0] H K:=by
 refine ⟨enters' Tryz.func100 rfl rfl,fun μ w vs hs hr _=>?_⟩;obtain ⟨x,xs,rfl,hr,hn⟩:=hr;cases hn;obtain ⟨lo,hl,hor⟩:=hs.has _ _ _ hg
 have hle:∀ ob j (y:Nat × AObj),hget ((id,ver,ob)::H) j=some y↔hget (hset H id ver ob) j=some y:=fun ob j y=>by simp only [hget,hget_hset]
 rcases hr with ⟨b,hl',rfl⟩ | ⟨hd,_⟩
 ·rw [hl] at hl'
  cases hl';obtain ⟨h1,cur,vs',rest,hrow,hcl,hrl⟩:=hor;obtain ⟨v0,vs1,rfl,r0,v1,vs2,rfl,r1,hn⟩:=hrl;cases hn;have hrow2:=hrow;obtain ⟨lo',hi',hbk,hfr⟩:=hrow2
  have hsz:2≤cur.size:=by rw [← Array.length_toList,hcl]; simp
  have hc0:cur[0]?=some v0:=by rw [← Array.getElem?_toList,hcl]; rfl
  have hcell:w.cell? ⟨b,0,none⟩=some v0:=by rw [Lib.cell_of_heap hbk]; exact hc0
  cases u with
  | false =>
   obtain rfl:v0=.pointer none:=r0;refine (Tryz.copyCheck_fresh b cur.size w hcell (by simp [World.shape?,hbk]) hsz (hrow.free (by omega))).mono ?_
   rintro e w' ⟨rfl,rfl⟩
   have hbk':(w.setCell ⟨b,0,none⟩ (.pointer (some ⟨b,0,none⟩))).heap[b]?=some (.cells (cur.setIfInBounds 0 (.pointer (some ⟨b,0,none⟩))) 124 (lo',hi')):=by
    show (w.heap.modify b _)[b]?=_;rw [Array.getElem?_modify,if_pos rfl,hbk];rfl
   obtain ⟨hsr,hE⟩:=hs.updArr (w':=w.setCell ⟨b,0,none⟩ (.pointer (some ⟨b,0,none⟩))) (cs':=[.ptr id ver 0,s]) hg hl ⟨rfl,rfl,rfl,Nat.le_refl _⟩ (by show (w.heap.modify b _).size=_; simp) (fun b' hne=>by
    show (w.heap.modify b _)[b']?=_
    rw [Array.getElem?_modify,if_neg (fun e=>hne e.symm)]) hrow ⟨lo',hi',hbk',by simpa using hfr⟩ (by simp) fun E=>by
     refine ⟨fun c hc=>?_,_,[.pointer (some ⟨b,0,none⟩),v1],rest,⟨lo',hi',hbk',by simpa using hfr⟩,?_,?_⟩
     ·rcases List.mem_cons.1 hc with rfl | hc
      ·rfl
      exact h1 c (List.mem_cons_of_mem _ hc)
     ·rw [Array.toList_setIfInBounds,hcl]; rfl
     exact ⟨_,_,rfl,.inl ⟨b,hl,rfl⟩,_,_,rfl,Rep.evo E hs.ok _ _ r1,rfl⟩
   exact ⟨_,.tup [],_,μ,rfl,hK,hsr.le (hle _),⟨[],rfl,rfl⟩,hE⟩
  | true =>
   rcases r0 with ⟨b',hl2,rfl⟩ | ⟨hd,_⟩
   ·rw [hl] at hl2
    cases hl2;refine (Tryz.copyCheck_used b w hcell).mono ?_
    rintro e w' ⟨rfl,rfl⟩
    exact ⟨_,.tup [],_,μ,rfl,hK,(hs.same hg).le (hle _),⟨[],rfl,rfl⟩,Evo.refl _ _⟩
   exact absurd hl (hd.2 _)
 exact absurd hl (hd.2 _)
end Go.AW
namespace Go.AW
open Go
abbrev eByte:EncL UInt8:=encM fun b=>HV.int .u8 (b.toNat:Int)
section
variable {P:Program} {ro:Option Nat} {N:Nat} {s:AS} {o:Oper} {sl:List (Nat × HV)} {H:Heap} {all:Array Oper} {rest:List Oper} {K:AS→Prop}
theorem o_appS {d:Nat} {t xt e:TypeId} {a b a2 b2:Nat} {z z2:Value} {aa:Array Operand} {ts:Array TypeId} {x y:Operand} {Te:TyI} {l m:List UInt8} {id ver:Nat} (h0:(o.dst,o.op)=(some d,.call ⟨.builtin .append,aa,ts⟩)) (ha:(aa.toList,ts.toList)=([x,y],[t,xt])) (hT:ty P t=some ⟨.slice e,a,b,z⟩) (hxt:ty P xt=some ⟨.string,a2,b2,z2⟩) (hTe:ty P e=some Te)
  (hx:s.ev x=some (.ar id ver eByte.k 0 l.length)) (hg:hget s.heap id=some (ver,.arr eByte.k e (eByte.E l))) (hy:s.ev y=some (.str m)) (hk:Te.size=1) (hz:(zcells Te.zero).any (fun zs=>zs.length == Te.size)=true) (h:fits Te.bytes (l.length+m.length))
  (k:∀ ver',bops P ro N all rest K ⟨(d,.ar id ver' eByte.k 0 (l++m).length)::s.slots,(id,ver',.arr eByte.k e (eByte.E (l++m)))::s.heap⟩):aop P 0 [] o (fun s'=>bops P ro N all rest K s') s:=by
 obtain ⟨h3,h4⟩:=Prod.mk.inj h0;obtain ⟨h5,h6⟩:=Prod.mk.inj ha;have ek:eByte.k=1:=rfl;refine op_append (n:=l.length) (m:=m.length) (cs:=eByte.E l) (ds:=eByte.E m) h4 h5 h6 hT hx hy hTe hz ?_ ?_ h ?_
 ·simp only [abase,hg]
  refine ⟨trivial,hk.symm,trivial,trivial,?_,trivial,?_⟩
  ·rw [hk,eByte.len]; exact Nat.le_refl _
  rw [hk];show (eByte.E l).take (l.length*eByte.k)=_;rw [eByte.take,List.take_length]
 ·simp only [asrc,hxt]
  exact ⟨hk,trivial,rfl⟩
 intro ver';have e1:baseId (.ar id ver eByte.k 0 l.length) (cid 0 o.dst)=id:=rfl;have e2:eByte.E l++eByte.E m=eByte.E (l++m):=(eByte.append l m).symm;rw [e1,h3,hk,e2];have e3:(l++m).length=l.length+m.length:=List.length_append;have:=k ver';rw [e3] at this;exact bops_le (putH_le id ver' _ d _) this
end
open Go.Proofs
def bldO (id ver aid aver:Nat) (u:Bool) (l:List UInt8):AObj:=.arr 2 124 [bldP u id ver,.ar aid aver 1 0 l.length]
def bytO (l:List UInt8):AObj:=.arr 1 5 (eByte.E l)
theorem hget_1 {id v j w:Nat} {o p:AObj} {H:Heap} (h:j≠id) (hj:hget H j=some (w,p)):hget ((id,v,o)::H) j=some (w,p):=by
 simp only [hget];rw [if_neg (by omega)];exact hj
end Go.AW
namespace Go.Proofs
open Go
def But (g:Nat) (w w':World):Prop:=Go.AW.Same w w'∧w.heap.size≤w'.heap.size∧∀ k,k<w.heap.size→k≠g→w'.heap[k]?=w.heap[k]?
set_option maxHeartbeats 2000000 in
set_option maxRecDepth 100000 in
theorem Tryz.bldS_nil (b g:Nat) (w:World) (c0:w.cell? ⟨b,1,none⟩=some (.slice none 0 0)) :
  Calls Tryz.prog 79 #[.pointer (some ⟨b,0,none⟩)] w fun e w'=>e=.returned (.string ⟨#[]⟩)∧But g w w':=by
 have hUS:∀ (W:World) (q:Option Addr),(Builtin.unsafeString_ #[153,3] 9 #[.pointer q,.int .i64 0]).run Tryz.prog W=.ok (.string .empty) W:=fun W q=>Lib.run_unsafeString_none W _ _ _ q;have c1:w.drew.cell? ⟨b,1,none⟩=some (.slice none 0 0):=c0;have hSD:(Builtin.unsafeSliceData_ #[122] 153 #[.slice none 0 0]).run Tryz.prog w.drew=.ok (.pointer none) w.drew:=rfl
 have mixed:Tryz.prog.follows .mixedOrders=true:=by kernel_rfl
 go_enter Tryz.func79,Tryz.ntmps79
 go_wp2
 go_region_o
 all_goals (go_wp2; go_ret; exact ⟨rfl,⟨rfl,rfl,rfl,by first | exact Nat.le_refl _ | exact Nat.le_succ _ | exact Nat.le_add_right _ _⟩,Nat.le_refl _,fun _ _ _=>rfl⟩)
set_option maxHeartbeats 2000000 in
set_option maxRecDepth 100000 in
theorem Tryz.bldS_room (b g cap:Nat) (w:World) (hc0:cap≠0) (c0:w.cell? ⟨b,1,none⟩=some (.slice (some ⟨g,0,none⟩) 0 cap)) :
  Calls Tryz.prog 79 #[.pointer (some ⟨b,0,none⟩)] w fun e w'=>e=.returned (.string ⟨#[]⟩)∧But g w w':=by
 have hUS:∀ (W:World) (q:Option Addr),(Builtin.unsafeString_ #[153,3] 9 #[.pointer q,.int .i64 0]).run Tryz.prog W=.ok (.string .empty) W:=fun W q=>Lib.run_unsafeString_none W _ _ _ q;have c1:w.drew.cell? ⟨b,1,none⟩=some (.slice (some ⟨g,0,none⟩) 0 cap):=c0;have hSD:(Builtin.unsafeSliceData_ #[122] 153 #[.slice (some ⟨g,0,none⟩) 0 cap]).run Tryz.prog w.drew=.ok (.pointer (some ⟨g,0,none⟩)) w.drew:=Lib.run_unsafeSliceData_row _ _ _ _ _ _ hc0;clear hc0
 have mixed:Tryz.prog.follows .mixedOrders=true:=by kernel_rfl
 go_enter Tryz.func79,Tryz.ntmps79
 go_wp2
 go_region_o
 all_goals (go_wp2; go_ret; exact ⟨rfl,⟨rfl,rfl,rfl,by first | exact Nat.le_refl _ | exact Nat.le_succ _ | exact Nat.le_add_right _ _⟩,Nat.le_refl _,fun _ _ _=>rfl⟩)
set_option maxHeartbeats 2000000 in
set_option maxRecDepth 100000 in
theorem Tryz.bldS_noroom (b g:Nat) (cur:Array Value) (fr:Nat × Nat) (w:World) (hlt:b<w.heap.size) (c0:w.cell? ⟨b,1,none⟩=some (.slice (some ⟨g,0,none⟩) 0 0)) (hg:w.heap[g]?=some (.cells cur 5 fr)) :
  Calls Tryz.prog 79 #[.pointer (some ⟨b,0,none⟩)] w fun e w'=>e=.returned (.string ⟨#[]⟩)∧But g w w':=by
 have hUS:∀ (W:World) (q:Option Addr),(Builtin.unsafeString_ #[153,3] 9 #[.pointer q,.int .i64 0]).run Tryz.prog W=.ok (.string .empty) W:=fun W q=>Lib.run_unsafeString_none W _ _ _ q;have c1:w.drew.cell? ⟨b,1,none⟩=some (.slice (some ⟨g,0,none⟩) 0 0):=c0
 have hSD:(Builtin.unsafeSliceData_ #[122] 153 #[.slice (some ⟨g,0,none⟩) 0 0]).run Tryz.prog w.drew=.ok (.pointer (some ⟨w.drew.heap.size,0,none⟩)) (w.drew.alloc (.view ⟨g,0,none⟩ 5)) :=
  Lib.run_unsafeSliceData_zero w.drew _ _ 5 Tryz.underlying153 ⟨g,0,none⟩ 0 (5,cur.size) (by have hg':w.drew.heap[g]?=some (.cells cur 5 fr):=hg; simp [World.shape?,hg'])
 have c2:(w.drew.alloc (.view ⟨g,0,none⟩ 5)).cell? ⟨b,1,none⟩=some (.slice (some ⟨g,0,none⟩) 0 0):=by
  have e:(w.drew.alloc (.view ⟨g,0,none⟩ 5)).heap[b]?=w.heap[b]?:=Lib.alloc_old w.drew _ b hlt
  have h1:(w.drew.alloc (.view ⟨g,0,none⟩ 5)).cell? ⟨b,1,none⟩=w.cell? ⟨b,1,none⟩:=by simp only [World.cell?,e]
  rw [h1]; exact c0
 have c3:(w.alloc (.view ⟨g,0,none⟩ 5)).drew.cell? ⟨b,1,none⟩=some (.slice (some ⟨g,0,none⟩) 0 0):=c2
 have mixed:Tryz.prog.follows .mixedOrders=true:=by kernel_rfl
 go_enter Tryz.func79,Tryz.ntmps79
 go_wp2
 go_region_o
 all_goals (go_wp2; go_ret; exact ⟨rfl,⟨rfl,rfl,rfl,by first | exact Nat.le_refl _ | exact Nat.le_succ _ | exact Nat.le_add_right _ _⟩,by show w.heap.size≤(w.heap.push _).size; rw [Array.size_push]; omega,fun k hk _=>Lib.alloc_old w.drew _ k hk⟩)
set_option maxHeartbeats 2000000 in
set_option maxRecDepth 100000 in
theorem Tryz.bldS_some (b g cap:Nat) (cur:Array Value) (fr:Nat × Nat) (l:List UInt8) (w:World) (h0:l≠[]) (c0:w.cell? ⟨b,1,none⟩=some (.slice (some ⟨g,0,none⟩) l.length cap)) (hg:w.heap[g]?=some (.cells cur 5 fr)) (hcap:l.length≤cap) (hsz:cur.size=cap) (hcm:cap≤maxLen)
  (hcell:∀ (j:Nat) (x:UInt8),l[j]?=some x→cur[j]?=some (.int .u8 x.toNat)) :
  Calls Tryz.prog 79 #[.pointer (some ⟨b,0,none⟩)] w fun e w'=>e=.returned (.string ⟨l.toArray⟩)∧But g w w':=by
 have hl0:l.length≠0:=by simpa using h0
 have c1:w.drew.cell? ⟨b,1,none⟩=some (.slice (some ⟨g,0,none⟩) l.length cap):=c0;have hSD:(Builtin.unsafeSliceData_ #[122] 153 #[.slice (some ⟨g,0,none⟩) l.length cap]).run Tryz.prog w.drew=.ok (.pointer (some ⟨g,0,none⟩)) w.drew:=Lib.run_unsafeSliceData_row _ _ _ _ _ _ (by omega)
 have hUS:(Builtin.unsafeString_ #[153,3] 9 #[.pointer (some ⟨g,0,none⟩),.int .i64 l.length]).run Tryz.prog w.drew=.ok (.string ⟨l.toArray⟩) (w.drew.freeze ⟨g,0,none⟩ l.length):=by
  refine Lib.run_unsafeString_row w.drew 153 3 9 5 Tryz.underlying153 (by kernel_rfl) g cur.size (by have hg':w.drew.heap[g]?=some (.cells cur 5 fr):=hg; simp [World.shape?,hg']) l h0 (by omega) (by unfold maxLen at hcm; omega) ?_;intro j x hx;have hg':w.drew.heap[g]?=some (.cells cur 5 fr):=hg;rw [Addr.add_lit,Nat.zero_add,Lib.cell_of_heap hg'];exact hcell j x hx
 have hfz:But g w (w.drew.freeze ⟨g,0,none⟩ l.length):=by
  unfold World.freeze;rw [if_neg hl0];refine ⟨⟨rfl,rfl,rfl,by first | exact Nat.le_refl _ | exact Nat.le_succ _ | exact Nat.le_add_right _ _⟩,by show w.heap.size≤(w.heap.modify g _).size; simp,fun k hk hne=>?_⟩;show (w.heap.modify g _)[k]?=_;rw [Array.getElem?_modify,if_neg (fun e=>hne e.symm)]
 clear hcell hsz hcap hcm h0 hl0 hg
 have mixed:Tryz.prog.follows .mixedOrders=true:=by kernel_rfl
 go_enter Tryz.func79,Tryz.ntmps79
 go_wp2
 go_region_o
 all_goals (go_wp2; go_ret; exact ⟨rfl,hfz⟩)
end Go.Proofs
namespace Go.AW
open Go
section
open Go Go.Proofs Go.Lib
theorem repL_byt {w:World} {μ:Mu}:∀ {l:List UInt8} {vs:List Value},RepL w μ (l.map fun b=>HV.int .u8 (b.toNat:Int)) vs→vs=l.map fun b=>Value.int .u8 (b.toNat:Int)
 | [],vs,h=>h
 | x::l,vs,h=>by
  obtain ⟨v,vs',rfl,hx,hr⟩:=h;obtain ⟨rfl,_⟩:=hx;rw [repL_byt hr];rfl
theorem c_String {H:Heap} {K:HV→Heap→Prop} {id ver aid aver:Nat} {u:Bool} {l:List UInt8} (hg:hget H id=some (ver,bldO id ver aid aver u l)) (ha:hget H aid=some (aver,bytO l)) (hK:∀ av,K (.str l) ((aid,av,.arr 1 5 [])::H)) :
  ACall Tryz.prog 79 [.ptr id ver 0] H K:=by
 refine ⟨enters' Tryz.func79 rfl rfl,fun μ w vs hs hr _=>?_⟩;obtain ⟨x,xs,rfl,hr,hn⟩:=hr;cases hn;obtain ⟨lo,hl,hor⟩:=hs.has _ _ _ hg;obtain ⟨la,hla,hora⟩:=hs.has _ _ _ ha
 have hle:∀ v ob j (y:Nat × AObj),hget ((aid,v,ob)::H) j=some y↔hget (hset H aid v ob) j=some y:=fun v ob j y=>by simp only [hget,hget_hset]
 have fin:∀ (g:Nat) (w':World),(∀ b,μ.loc aid=some (aver,some b)→b=g)→(la=none→w.heap.size≤g)→l.length≤maxLen→But g w w'→∃ v r H' μ',Ending.returned (.string ⟨l.toArray⟩)=.returned v∧K r H'∧SR w' μ' H'∧Rep w' μ' r v∧Evo w μ w' μ':=by
  intro g w' hb hgn hlen ⟨h1,h2,h3⟩
  have hold:∀ b,b<w.heap.size→(∀ ver,μ.loc aid≠some (ver,some b))→w'.heap[b]?=w.heap[b]?:=fun b hb1 hb2=>by
   by_cases e:b=g
   ·cases la with
    | none=>exact absurd (hgn rfl) (by omega)
    | some b0 =>
     have:=hb b0 hla;subst this;subst e;exact absurd hla (hb2 _)
   exact h3 b hb1 e
  have hsr:=hs.repl aid none (.arr 1 5 []) h1 h2 hold (fun b hb=>by cases hb) rfl;have hE:=Evo.repl hs aid none h1 h2 hold (fun b hb=>by cases hb);exact ⟨_,.str l,_,μ.set aid none,rfl,hK μ.nx,hsr.le (hle _ _),⟨rfl,hlen⟩,hE⟩
 rcases hr with ⟨b,hl',rfl⟩ | ⟨hd,_⟩
 ·rw [hl] at hl'
  cases hl';obtain ⟨h1,cur,vs',rest,hrow,hcl,hrl⟩:=hor;obtain ⟨v0,vs1,rfl,r0,v1,vs2,rfl,r1,hn⟩:=hrl;cases hn;have hrow2:=hrow;obtain ⟨lo',hi',hbk,hfr⟩:=hrow2
  have hc1:cur[1]?=some v1:=by rw [← Array.getElem?_toList,hcl]; rfl
  have hcell:w.cell? ⟨b,1,none⟩=some v1:=by rw [Lib.cell_of_heap hbk]; exact hc1
  have hlt:b<w.heap.size:=by
   rcases Nat.lt_or_ge b w.heap.size with h' | h'
   ·exact h'
   simp [Array.getElem?_eq_none h'] at hbk
  rcases r1 with ⟨la',hla',⟨rfl,rfl,h0,_⟩ | ⟨g,cap,curg,e,rfl,rfl,hnc,hcm,hrowg,hszg⟩⟩ | ⟨hd,_⟩
  ·have hln:=List.eq_nil_of_length_eq_zero h0
   subst hln;refine (Tryz.bldS_nil b w.heap.size w hcell).mono ?_
   rintro e w' ⟨rfl,hb⟩
   exact fin _ w' (fun b hb=>by rw [hla'] at hb; cases hb) (fun _=>Nat.le_refl _) (Nat.zero_le _) hb
  ·rw [hla] at hla'
   cases hla';obtain ⟨_,cur2,vs2,rest2,hrow2,hcl2,hrl2⟩:=hora;obtain ⟨lo2,hi2,hbg,hfr2⟩:=hrow2;obtain ⟨lo3,hi3,hbg3,hfr3⟩:=hrowg;rw [hbg] at hbg3;cases hbg3;have hvs:=repL_byt hrl2;subst hvs
   have hb1:∀ b,μ.loc aid=some (aver,some b)→b=g:=fun b hb=>by rw [hla] at hb; cases hb; rfl
   by_cases h0:l=[]
   ·subst h0
    by_cases hc0:cap=0
    ·subst hc0
     refine (Tryz.bldS_noroom b g curg _ w hlt hcell hbg).mono ?_
     rintro e w' ⟨rfl,hb⟩
     exact fin g w' hb1 (fun e=>by cases e) (Nat.zero_le _) hb
    refine (Tryz.bldS_room b g cap w hc0 hcell).mono ?_
    rintro e w' ⟨rfl,hb⟩
    exact fin g w' hb1 (fun e=>by cases e) (Nat.zero_le _) hb
   refine (Tryz.bldS_some b g cap curg _ l w h0 hcell hbg hnc (by omega) hcm fun j x hj=>?_).mono ?_
   ·rw [← Array.getElem?_toList,hcl2,List.getElem?_append_left (by
     have:=(List.getElem?_eq_some_iff.1 hj).1
     simpa using this),List.getElem?_map,hj]
    rfl
   rintro e w' ⟨rfl,hb⟩
   exact fin g w' hb1 (fun e=>by cases e) (by omega) hb
  exact absurd hla (hd.2 _)
 exact absurd hl (hd.2 _)
end
open Go.Proofs
set_option linter.unusedVariables false
set_option maxRecDepth 100000 in
theorem c_WriteString {H:Heap} {K:HV→Heap→Prop} {id ver aid aver:Nat} {u:Bool} {l m:List UInt8} (hid:aid≠id) (hg:hget H id=some (ver,bldO id ver aid aver u l)) (ha:hget H aid=some (aver,bytO l)) (hfit:fits 1 (l.length+m.length))
    (hK:∀ av,K (.tup [.int .i64 (m.length:Int),.v .nilIface]) ((id,ver,bldO id ver aid av true (l++m))::(aid,av,bytO (l++m))::H)):ACall Tryz.prog 77 [.ptr id ver 0,.str m] H K:=by
  refine ACall.of_body Tryz.func77 rfl rfl (lb rfl) ?_;unfold Tryz.f77;dsimp only [enumS,Nat.reduceAdd];refine AW.rgs rfl fun K1 hK1=>?_;refine mv rfl rfl (mv rfl rfl ?_);refine b_nil (hK1 _ (AW.to (to_le (s':=⟨[(0,.ptr id ver 0),(1,.str m)],H⟩) (le_slH ⟨rfl,rfl,trivial⟩) ?_)));clear hK1 K1;refine AW.rgs rfl fun K1 hK1=>?_;refine mv rfl rfl ?_;refine b_op rfl (o_callA rfl rfl rfl rfl (c_copyCheck hg ?_));refine b_nil (hK1 _ (AW.to (to_le (s':=⟨[(0,.ptr id ver 0),(1,.str m)],(id,ver,.arr 2 124 [.ptr id ver 0,.ar aid aver 1 0 l.length])::H⟩) (le_slH ⟨rfl,rfl,trivial⟩) ?_)));clear hK1 K1;have ha1:hget ((id,ver,AObj.arr 2 124 [.ptr id ver 0,.ar aid aver 1 0 l.length])::H) aid=some (aver,.arr eByte.k 5 (eByte.E l)):=hget_1 hid ha;refine AW.rgs rfl fun K1 hK1=>?_;refine mv rfl rfl (mv rfl rfl (bv rfl (v_nilP rfl hget_0) (bv rfl (v_fieldAddrP fo124_1 rfl hget_0) (bv rfl (v_loadP ty122 rfl hget_0 (l_lit rfl rfl)) (mv rfl rfl ?_)))));refine b_op rfl (o_appS (l:=l) (m:=m) rfl rfl ty122 ty9 ty5 rfl ha1 rfl rfl rfl hfit (fun av=>?_));refine bv rfl (v_nilP rfl (hget_1 (fun e=>hid e.symm) hget_0)) (bv rfl (v_fieldAddrP fo124_1 rfl (hget_1 (fun e=>hid e.symm) hget_0)) ?_);refine b_op rfl (o_store (cs:=[.ar aid av 1 0 (l++m).length]) (zs:=[.ptr id ver 0,.ar aid av 1 0 (l++m).length]) rfl rfl rfl ty122 rfl (hget_1 (fun e=>hid e.symm) hget_0) rfl rfl rfl ?_);refine b_nil (hK1 _ (AW.to (to_le (s':=⟨[(1,.str m)],(id,ver,.arr 2 124 [.ptr id ver 0,.ar aid av 1 0 (l++m).length])::(aid,av,.arr 1 5 (eByte.E (l++m)))::H⟩) ⟨leS_get ⟨rfl,trivial⟩,fun j x hx=>?_⟩ ?_)))
  · simp only [hget] at hx ⊢
    by_cases h1:j=id
    · subst h1; simpa using hx
    rw [if_neg h1] at hx ⊢;by_cases h2:j=aid
    · rw [if_pos h2] at hx ⊢; exact hx
    rw [if_neg h2] at hx;rw [if_neg h2,if_neg h1];exact hx
  clear hK1 K1;refine AW.rgs rfl fun K1 hK1=>?_;refine mv rfl rfl (bv rfl (v_lenS rfl rfl ty9 rfl) (mv rfl rfl (mv rfl rfl ?_)));refine b_nil (hK1 _ (AW.to (to_le (s':=⟨[(4,.int .i64 (m.length:Int)),(5,.v .nilIface)],(id,ver,.arr 2 124 [.ptr id ver 0,.ar aid av 1 0 (l++m).length])::(aid,av,.arr 1 5 (eByte.E (l++m)))::H⟩) (le_slH ⟨rfl,rfl,trivial⟩) ?_)));clear hK1 K1;refine AW.ret ⟨.inr rfl,?_⟩;simp only [go_sem];exact ⟨_,_,Conv.refl _ _,hK av⟩
abbrev TST:=Int × Int
abbrev TPairBeforeLabel:=TST × Int × Int
abbrev cPairBeforeLabel (x:TPairBeforeLabel):List HV:=[HV.int .i64 x.1.1,HV.int .i64 x.1.2,HV.int .i64 x.2.1,HV.int .i64 x.2.2]
abbrev ePairBeforeLabel:EncL TPairBeforeLabel:=encF 4 cPairBeforeLabel (fun _=>rfl)
noncomputable def m_minimal_table_next (p0:List (List (Int))) (p1:Int) (p2:Int):Option (Int) :=
 if p1=(-1) then
  some (-1)
 else
  (idx p0 p1).bind fun x1 =>
  (idx x1 p2).bind fun x3 =>
  some x3
noncomputable def m_minimal_first (p0:List (List (Int))) (p1:List (List (Int))) (p2:Int) (p3:TST) (p4:TST→Option (Bool)):Option ((List (Int)) × Bool) :=
 (kset wfST p3 true ([]:List (TST × Bool))).bind fun x4 =>
 lpO (loopW (S := Int × (List TPairBeforeLabel) × (List (TST × Bool))) (X:=Ou (Unit) ((List (Int)) × Bool)) (fun a7 =>
     if a7.1 < (((a7.2.1).length:Nat):Int) then
      (idx a7.2.1 a7.1).bind fun x11 =>
      (idx a7.2.1 a7.1).bind fun x13 =>
      (p4 (x13.1.1,x13.1.2)).bind fun x16 =>
      if x16 = true then
       (loopW (S:=Int × (List Int)) (X:=(List Int)) (fun a18 =>
           (idx a7.2.1 a18.1).bind fun x22 =>
           (idx a7.2.1 a18.1).bind fun x24 =>
           if x24.2.1≠(-1) then
            (idx a7.2.1 a18.1).bind fun x26 =>
            (idx a7.2.1 a18.1).bind fun x28 =>
            if fits 8 ((a18.2:List Int).length+([x28.2.2]).length) then
             (idx a7.2.1 a18.1).bind fun x32 =>
             (idx a7.2.1 a18.1).bind fun x34 =>
             some (Stp.next (x34.2.1,a18.2++[x28.2.2]))
            else none
           else
            some (Stp.exit a18.2)) (a7.1,([]:List Int))).bind fun a37 =>
       if (a37).length<4611686018427387904 then
        some (Stp.exit (Ou.ret (List.reverse a37,true)))
       else none
      else
       (loopW (S := Int × (List TPairBeforeLabel) × (List (TST × Bool))) (X:=(List TPairBeforeLabel) × (List (TST × Bool))) (fun a40 =>
           if a40.1<p2 then
            jp (fun (a44:(List TPairBeforeLabel) × (List (TST × Bool))) =>
              some (Stp.next (IntKind.wrap .i64 (a40.1+1),a44.1,a44.2)))
              fun k46 =>
             (m_minimal_table_next p0 x13.1.1 a40.1).bind fun x470401 =>
             (m_minimal_table_next p1 x13.1.2 a40.1).bind fun x470901 =>
             jp (fun (a48:Bool) =>
               if a48=true then
                (kset wfST (x470401,x470901) true a40.2.2).bind fun x51 =>
                if fits 32 ((a40.2.1:List TPairBeforeLabel).length+([((x470401,x470901),a7.1,a40.1)]).length) then
                 k46 (a40.2.1++[((x470401,x470901),a7.1,a40.1)],x51)
                else none
               else
                k46 (a40.2.1,a40.2.2))
               fun k50 =>
              if ((x470401,x470901):TST)=((-1),(-1)) then
               k50 false
              else
               (kget wfST (x470401,x470901) false a40.2.2).bind fun x56 =>
               k50 (!x56)
           else
            some (Stp.exit (a40.2.1,a40.2.2))) (0,a7.2.1,a7.2.2)).bind fun a59 =>
       some (Stp.next (IntKind.wrap .i64 (a7.1+1),a59.1,a59.2))
     else
      some (Stp.exit (Ou.go ()))) (0,[((p3.1,p3.2),(-1),(-1))],x4)) (fun a61 =>
     some ([],false)) some
noncomputable def m_minimal_search (p0:TLabelsStatesEdges) (p1:TLabelsStatesEdges) (p2:TST→Option (Bool)):Option ((List (Int)) × Bool × Int) :=
 jp (fun (a1 : Bool) =>
   if a1=true then
    some ([],false,1)
   else
    lpO (loopW (S:=Int × (List (List (Int))) × (List (List (Int))) × Int × Int) (X:=Ou ((List (List (Int))) × (List (List (Int))) × Int × Int) ((List (Int)) × Bool × Int)) (fun a6 =>
        if a6.1 < (([p0,p1]).length:Int) then
         jp (fun (a10:(List (List (Int))) × (List (List (Int))) × Int × Int) =>
           some (Stp.next (IntKind.wrap .i64 (a6.1+1),a10.1,a10.2.1,a10.2.2.1,a10.2.2.2)))
           fun k12 =>
          (idx [p0,p1] a6.1).bind fun x13 =>
          (m_subset_Build x13).bind fun x16 =>
          if x16.2.2≠0 then
           some (Stp.exit (Ou.ret ([],false,x16.2.2)))
          else
           (m_minimal_of x16.1 (max p0.1 p1.1)).bind fun x19 =>
           if (a6.1:Int)=0 then
            jp (fun (a22:Bool) =>
              if a22=true then
               k12 (x19,a6.2.2.1,0,a6.2.2.2.2)
              else
               if 0<x16.1.2.1 then
                k12 (x19,a6.2.2.1,a6.2.2.2.1,0)
               else
                k12 (x19,a6.2.2.1,a6.2.2.2.1,a6.2.2.2.2))
              fun k24 =>
             if 0<x16.1.2.1 then
              k24 (decide (a6.1=0))
             else
              k24 false
           else
            if (a6.1:Int)=1 then
             jp (fun (a27:Bool) =>
               if a27=true then
                k12 (a6.2.1,x19,0,a6.2.2.2.2)
               else
                if 0<x16.1.2.1 then
                 k12 (a6.2.1,x19,a6.2.2.2.1,0)
                else
                 k12 (a6.2.1,x19,a6.2.2.2.1,a6.2.2.2.2))
               fun k29 =>
              if 0<x16.1.2.1 then
               k29 (decide (a6.1=0))
              else
               k29 false
            else
             none
        else
         some (Stp.exit (Ou.go (a6.2.1,a6.2.2.1,a6.2.2.2.1,a6.2.2.2.2)))) (0,([]:List (List (Int))),([]:List (List (Int))),(-1),(-1))) (fun a31 =>
        if ((a31.2.2.1,a31.2.2.2):TST)=((-1),(-1)) then
         some ([],true,0)
        else
         (m_minimal_first a31.1 a31.2.1 (max p0.1 p1.1) (a31.2.2.1,a31.2.2.2) p2).bind fun x33 =>
         some (x33.1,!x33.2,0)) some)
   fun k3 =>
  (m_graph_Check p0).bind fun x35 =>
  if x35≠0 then
   k3 true
  else
   (m_graph_Check p1).bind fun x37 =>
   k3 (decide (x37≠0))
noncomputable def m_minimal_one (p0:TST):Option (Bool) :=
 some (!((decide (p0.1=(-1))) == (decide (p0.2=(-1)))))
noncomputable def m_minimal_Equal (p0:TLabelsStatesEdges) (p1:TLabelsStatesEdges):Option ((List (Int)) × Bool × Int) :=
 (m_minimal_search p0 p1 (fun b0=>m_minimal_one b0 )).bind fun x1 =>
 some (x1.1,x1.2.1,x1.2.2)
noncomputable def m_top_top27Golden  : Option (TLabelsStatesEdges) :=
 some (2,2,[(0,0,0),(0,1,1),(1,0,0)])
noncomputable def m_top_top27Awake  : Option (Bool) :=
 (m_top_top27Golden).bind fun x1 =>
 (m_subset_Build x1).bind fun x3 =>
 (m_top_top27Golden).bind fun x6 =>
 (m_minimal_Equal x6 x3.1).bind fun x8 =>
 jp (fun (a10:Bool) =>
   some a10)
   fun k12 =>
  if x3.2.2=0 then
   if x8.2.2=0 then
    if x3.1.2.1=3 then
     k12 x8.2.1
    else
     k12 false
   else
    k12 false
  else
   k12 false
noncomputable def m_top_top27Alike (p0:TLabelsStatesEdges) (p1:TLabelsStatesEdges):Option (Int × Bool × Bool) :=
 lpO (loopW (S:=Int × Int) (X:=Ou (Unit) (Int × Bool × Bool)) (fun a1 =>
     if a1.2 < 7 then
      jp (fun (a5:Int) =>
        if 800<a5 then
         some (Stp.exit (Ou.ret (a1.2,true,true)))
        else
         (m_language_Words p0 a1.2).bind fun x8 =>
         (m_language_Words p1 a1.2).bind fun x10 =>
         jp (fun (a12:Bool) =>
           if a12=true then
            some (Stp.exit (Ou.ret (a1.2,false,false)))
           else
            (m_slices_Equal_Lstring_string x8.1 x10.1).bind fun x15 =>
            if (!x15)=true then
             some (Stp.exit (Ou.ret (a1.2,false,true)))
            else
             some (Stp.next (a5,IntKind.wrap .i64 (a1.2+1))))
           fun k14 =>
          if x8.2≠0 then
           k14 true
          else
           k14 (decide (x10.2≠0)))
        fun k7 =>
       if 0<a1.2 then
        k7 (IntKind.wrap .i64 (a1.1*(max 1 p0.1)))
       else
        k7 a1.1
     else
      some (Stp.exit (Ou.go ()))) (1,0)) (fun a18 =>
     some (7,true,true)) some
noncomputable def m_slices_Index_Lint_int (p0:List (Int)) (p1:Int):Option (Int) :=
 lpO (loopW (S:=Int) (X:=Ou (Unit) (Int)) (fun a1 =>
   if a1<((p0).length:Int) then
    (idx p0 a1).bind fun x5 =>
    if p1=x5 then
     some (Stp.exit (Ou.ret a1))
    else
     some (Stp.next (IntKind.wrap .i64 (a1+1)))
   else
    some (Stp.exit (Ou.go ()))) 0) (fun a7 =>
   some (-1)) some
noncomputable def m_slices_Contains_Lint_int (p0:List (Int)) (p1:Int):Option (Bool) :=
 (m_slices_Index_Lint_int p0 p1).bind fun x1 =>
 some (decide (0≤x1))
abbrev TStateParts:=Int × (List (List (Int)))
abbrev cStateParts (x:TStateParts):List HV:=[HV.int .i64 x.1,slE (eSl eInt) x.2]
abbrev eStateParts:EncL TStateParts:=encF 2 cStateParts (fun _=>rfl)
abbrev TGraphWeightsInputsRounds:=TLabelsStatesEdges × (List (Int)) × Int × (List (List (TStateParts)))
abbrev cGraphWeightsInputsRounds (x:TGraphWeightsInputsRounds):List HV:=[HV.int .i64 x.1.1,HV.int .i64 x.1.2.1,slE eFromLabelTo x.1.2.2,slE eInt x.2.1,HV.int .i64 x.2.2.1,slE (eSl eStateParts) x.2.2.2]
noncomputable def m_ref24_GreatRound (p0:List (TStateParts)):Option (Bool) :=
 lpO (loopW (S:=Int) (X:=Ou (Unit) (Bool)) (fun a1 =>
     if a1 < ((p0).length:Int) then
      (idx p0 a1).bind fun x5 =>
      if 6<((x5.2).length:Int) then
       some (Stp.exit (Ou.ret true))
      else
       lpO (loopW (S:=Int) (X:=Ou (Unit) (Bool)) (fun a7 =>
           (idx p0 a1).bind fun x11 =>
           if a7<((x11.2).length:Int) then
            (idx p0 a1).bind fun x13 =>
            (idx x13.2 a7).bind fun x15 =>
            if 16<((x15).length:Int) then
             some (Stp.exit (Ou.ret true))
            else
             some (Stp.next (IntKind.wrap .i64 (a7+1)))
           else
            some (Stp.exit (Ou.go ()))) 0) (fun a17 =>
           some (Stp.next (IntKind.wrap .i64 (a1+1)))) (fun r=>some (Stp.exit (Ou.ret r)))
     else
      some (Stp.exit (Ou.go ()))) 0) (fun a19 =>
     some (decide (8<((p0).length:Int)))) some
noncomputable def m_ref24_GreatVector (p0:List (Int)):Option (Bool) :=
 lpO (loopW (S:=Int) (X:=Ou (Unit) (Bool)) (fun a1 =>
     if a1<((p0).length:Int) then
      jp (fun (a5:Bool) =>
        if a5=true then
         some (Stp.exit (Ou.ret true))
        else
         some (Stp.next (IntKind.wrap .i64 (a1+1))))
        fun k7 =>
       (idx p0 a1).bind fun x8 =>
       if 12<x8 then
        (idx p0 a1).bind fun x10 =>
        k7 (decide (x10≤4096))
       else
        k7 false
     else
      some (Stp.exit (Ou.go ()))) 0) (fun a13 =>
     some (decide (8<((p0).length:Int)))) some
noncomputable def m_ref24_Great (p0:TGraphWeightsInputsRounds):Option (Bool) :=
 lpO (loopW (S:=Int) (X:=Ou (Unit) (Bool)) (fun a1 =>
     if a1<((p0.2.2.2).length:Int) then
      (idx p0.2.2.2 a1).bind fun x5 =>
      (m_ref24_GreatRound x5).bind fun x7 =>
      if x7=true then
       some (Stp.exit (Ou.ret true))
      else
       some (Stp.next (IntKind.wrap .i64 (a1+1)))
     else
      some (Stp.exit (Ou.go ()))) 0) (fun a9 =>
     jp (fun (a11:Bool) =>
       some a11)
       fun k13 =>
      (m_ref09_Great (p0.1.1,p0.1.2.1,p0.1.2.2)).bind fun x14 =>
      if x14=true then
       k13 true
      else
       (m_ref24_GreatVector p0.2.1).bind fun x16 =>
       if x16=true then
        k13 true
       else
        if 12<((p0.2.2.2).length:Int) then
         if ((p0.2.2.2).length:Int)≤64 then
          k13 true
         else
          k13 (decide (66<((p0.2.2.2).length:Int)))
        else
         k13 (decide (66<((p0.2.2.2).length:Int)))) some
noncomputable def m_graph_Out (p0:TLabelsStatesEdges) (p1:Int):Option ((List (Int)) × Int) :=
 (m_graph_Check p0).bind fun x1 =>
 if x1≠0 then
  some ([],1)
 else
  jp (fun (a3:Bool) =>
    if a3=true then
     some ([],25)
    else
     (y_graph_leaving p0 p1).bind fun L8 =>
     lpO (forL (S:=(List Int)) (X:=Unit) (fun a10 (x12:Int × TFromLabelTo) =>
         if fits 8 ((a10:List Int).length+([x12.1]).length) then
          some (Stp.next (a10++[x12.1]))
         else none) L8 ([]:List Int)) (fun a18 =>
         some (a18,0)) fun a20 =>
         none)
    fun k5 =>
   if p1<0 then
    k5 true
   else
    k5 (decide (p0.2.1≤p1))
noncomputable def m_slices_Min_Lint_int (p0:List (Int)):Option (Int) :=
 if ((p0).length:Int)<1 then
  none
 else
  (idx p0 0).bind fun x1 =>
  (loopW (S:=Int × Int) (X:=Int) (fun a3 =>
      if a3.2<((p0).length:Int) then
       (idx p0 a3.2).bind fun x7 =>
       some (Stp.next (min a3.1 x7,IntKind.wrap .i64 (a3.2+1)))
      else
       some (Stp.exit a3.1)) (x1,1)).bind fun a9 =>
  some a9
noncomputable def m_splitting_weights (p0:TLabelsStatesEdges) (p1:List (Int)) (p2:Int) (p3:TStateParts):Option ((List (Int)) × Bool) :=
 (idx p1 p3.1).bind fun x1 =>
 (loopW (S := Int × Int × Int × (List Int)) (X:=(List Int) × Int) (fun a3 =>
     if a3.2.2.1<((p3.2).length:Int) then
      (idx p3.2 a3.2.2.1).bind fun x7 =>
      (loopW (S:=Int × Int) (X:=Int) (fun a9 =>
          if a9.2<((x7).length:Int) then
           (idx x7 a9.2).bind fun x13 =>
           (idx p0.2.2 x13).bind fun x15 =>
           (idx p1 x15.2.2).bind fun x17 =>
           some (Stp.next (IntKind.wrap .i64 (a9.1+x17),IntKind.wrap .i64 (a9.2+1)))
          else
           some (Stp.exit a9.1)) (0,0)).bind fun a19 =>
      if p2≠0 then
       jp (fun (a22:Int) =>
         if fits 8 ((a3.2.2.2:List Int).length+([a22]).length) then
          some (Stp.next (IntKind.wrap .i64 (a3.1 - a22),a19,IntKind.wrap .i64 (a3.2.2.1+1),a3.2.2.2++[a22]))
         else none)
         fun k24 =>
        if a3.2.2.1=(IntKind.wrap .i64 (((p3.2).length:Int) - 1)) then
         k24 a3.1
        else
         k24 (IntKind.wrap .i64 (Int.tdiv a19 p2))
      else none
     else
      some (Stp.exit (a3.2.2.2,a3.2.1))) (x1,0,0,([]:List Int))).bind fun a28 =>
 jp (fun (a30:Bool) =>
   some (a28.1,a30))
   fun k32 =>
  (m_slices_Min_Lint_int a28.1).bind fun x33 =>
  if 1≤x33 then
   (idx a28.1 (IntKind.wrap .i64 ((((a28.1).length:Nat):Int) - 1))).bind fun x35 =>
   (idx a28.1 (IntKind.wrap .i64 ((((a28.1).length:Nat):Int) - 1))).bind fun x37 =>
   k32 (decide ((IntKind.wrap .i64 (p2*x37))≤a28.2))
  else
   k32 false
noncomputable def m_slices_IndexFunc_Lint_int (p0:List (Int)) (p1:Int→Option (Bool)):Option (Int) :=
 lpO (loopW (S:=Int) (X:=Ou (Unit) (Int)) (fun a1 =>
     if a1<((p0).length:Int) then
      (idx p0 a1).bind fun x5 =>
      (p1 x5).bind fun x7 =>
      if x7=true then
       some (Stp.exit (Ou.ret a1))
      else
       some (Stp.next (IntKind.wrap .i64 (a1+1)))
     else
      some (Stp.exit (Ou.go ()))) 0) (fun a9 =>
     some (-1)) some
noncomputable def m_slices_ContainsFunc_Lint_int (p0:List (Int)) (p1:Int→Option (Bool)):Option (Bool) :=
 (m_slices_IndexFunc_Lint_int p0 p1).bind fun x1 =>
 some (decide (0≤x1))
noncomputable def m_eigenvector_check_1 (p0:Int):Option (Bool) :=
 jp (fun (a1:Bool) =>
   some a1)
   fun k3 =>
  if p0<0 then
   k3 true
  else
   k3 (decide (4096<p0))
noncomputable def m_eigenvector_check (p0:TLabelsStatesEdges) (p1:List (Int)) (p2:Int):Option (Int) :=
 (m_graph_Check p0).bind fun x1 =>
 if x1≠0 then
  some 1
 else
  jp (fun (a3:Bool) =>
    if a3=true then
     some 2
    else
     if ((p1).length:Int)≠p0.2.1 then
      some 11
     else
      (m_slices_ContainsFunc_Lint_int p1 (fun b0=>m_eigenvector_check_1 b0 )).bind fun x6 =>
      if x6=true then
       some 2
      else
       some 0)
    fun k5 =>
   if p2<1 then
    k5 true
   else
    k5 (decide (256<p2))
noncomputable def m_eigenvector_zero_1 (p0:Int):Option (Bool) :=
 some (decide (p0≠0))
noncomputable def m_eigenvector_zero (p0:List (Int)):Option (Bool) :=
 (m_slices_ContainsFunc_Lint_int p0 (fun b0=>m_eigenvector_zero_1 b0 )).bind fun x1 =>
 some (!x1)
noncomputable def m_eigenvector_plus (p0:Int) (p1:Int):Option (Int) :=
 some (IntKind.wrap .i64 (p0+p1))
noncomputable def m_eigenvector_sums_int (p0:TLabelsStatesEdges) (p1:List (Int)):Option ((List (Int))) :=
 if 0 ≤ (p0.2.1:Int)∧(p0.2.1:Int)≤p0.2.1∧(p0.2.1:Int)*8≤281474976710656 then
  (loopW (S:=Int × (List Int)) (X:=(List Int)) (fun a3 =>
      if a3.1<((p0.2.2).length:Int) then
       (idx p0.2.2 a3.1).bind fun x7 =>
       (idx a3.2 x7.1).bind fun x10 =>
       (idx a3.2 x7.1).bind fun x12 =>
       (idx p1 x7.2.2).bind fun x14 =>
       (m_eigenvector_plus x12 x14).bind fun x16 =>
       (idx a3.2 x7.1).bind fun x18 =>
       some (Stp.next (IntKind.wrap .i64 (a3.1+1),(a3.2).set (x7.1).toNat x16))
      else
       some (Stp.exit a3.2)) (0,List.replicate (p0.2.1).toNat (0:Int))).bind fun a20 =>
  some a20
 else none
noncomputable def m_eigenvector_Check (p0:TLabelsStatesEdges) (p1:List (Int)) (p2:Int):Option (Int) :=
 (m_eigenvector_check p0 p1 p2).bind fun x1 =>
 if x1≠0 then
  some x1
 else
  (m_eigenvector_zero p1).bind fun x3 =>
  if x3=true then
   some 5
  else
   (m_eigenvector_sums_int p0 p1).bind fun x5 =>
   lpO (loopW (S:=Int) (X:=Ou (Unit) (Int)) (fun a7 =>
       if a7<((x5).length:Int) then
        (idx x5 a7).bind fun x11 =>
        (idx p1 a7).bind fun x13 =>
        if x11<(IntKind.wrap .i64 (p2*x13)) then
         some (Stp.exit (Ou.ret 23))
        else
         some (Stp.next (IntKind.wrap .i64 (a7+1)))
       else
        some (Stp.exit (Ou.go ()))) 0) (fun a15 =>
       some 0) some
noncomputable def m_splitting_base (p0:TLabelsStatesEdges) (p1:List (Int)) (p2:Int):Option (Int) :=
 (m_eigenvector_Check p0 p1 p2).bind fun x1 =>
 if x1≠0 then
  some x1
 else
  (m_slices_Contains_Lint_int p1 0).bind fun x3 =>
  if x3=true then
   some 2
  else
   some 0
noncomputable def m_cmp_Less_int (p0:Int) (p1:Int):Option (Bool) :=
 jp (fun (a1:Bool) =>
   some a1)
   fun k3 =>
  (m_cmp_isNaN_int p0).bind fun x4 =>
  if x4=true then
   (m_cmp_isNaN_int p1).bind fun x6 =>
   if (!x6)=true then
    k3 true
   else
    k3 (decide (p0<p1))
  else
   k3 (decide (p0<p1))
noncomputable def m_slices_IsSorted_Lint_int (p0:List (Int)):Option (Bool) :=
 lpO (loopW (S:=Int) (X:=Ou (Unit) (Bool)) (fun a1 =>
     if 0<a1 then
      (idx p0 a1).bind fun x5 =>
      (idx p0 (IntKind.wrap .i64 (a1 - 1))).bind fun x7 =>
      (m_cmp_Less_int x5 x7).bind fun x9 =>
      if x9=true then
       some (Stp.exit (Ou.ret false))
      else
       some (Stp.next (IntKind.wrap .i64 (a1 - 1)))
     else
      some (Stp.exit (Ou.go ()))) (IntKind.wrap .i64 (((p0).length:Int) - 1))) (fun a11 =>
     some true) some
noncomputable def m_splitting_divides (p0:List (List (Int))) (p1:List (Int)):Option (Bool) :=
 lpO (loopW (S:=Int × (List Int)) (X:=Ou ((List Int)) (Bool)) (fun a1 =>
     if a1.1<((p0).length:Int) then
      (idx p0 a1.1).bind fun x5 =>
      jp (fun (a7:Bool) =>
        if a7=true then
         some (Stp.exit (Ou.ret false))
        else
         if fits 8 ((a1.2:List Int).length+(x5).length) then
          some (Stp.next (IntKind.wrap .i64 (a1.1+1),a1.2++x5))
         else none)
        fun k9 =>
       if ((x5).length:Int)=0 then
        k9 true
       else
        (m_slices_IsSorted_Lint_int x5).bind fun x12 =>
        k9 (!x12)
     else
      some (Stp.exit (Ou.go a1.2))) (0,([]:List Int))) (fun a16 =>
     if (a16).length<4611686018427387904 then
      jp (fun (a19:Bool) =>
        some a19)
        fun k21 =>
       if 1<((p0).length:Int) then
        (m_slices_Equal_Lint_int (sortI a16) p1).bind fun x22 =>
        k21 x22
       else
        k21 false
     else none) some
noncomputable def m_splitting_Check (p0:TLabelsStatesEdges) (p1:List (Int)) (p2:Int) (p3:List (TStateParts)):Option (Int) :=
 (m_splitting_base p0 p1 p2).bind fun x1 =>
 if x1≠0 then
  some x1
 else
  if ((p3).length:Int)=0 then
   some 5
  else
   lpO (loopW (S:=Int) (X:=Ou (Unit) (Int)) (fun a3 =>
       if a3 < ((p3).length:Int) then
        (idx p3 a3).bind fun x7 =>
        jp (fun (a10:Bool) =>
          if a10=true then
           some (Stp.exit (Ou.ret 25))
          else
           jp (fun (a13:Bool) =>
             if a13=true then
              some (Stp.exit (Ou.ret 10))
             else
              (m_graph_Out p0 x7.1).bind fun x16 =>
              (m_splitting_divides x7.2 x16.1).bind fun x18 =>
              if (!x18)=true then
               some (Stp.exit (Ou.ret 11))
              else
               (m_splitting_weights p0 p1 p2 x7).bind fun x20 =>
               if (!x20.2)=true then
                some (Stp.exit (Ou.ret 16))
               else
                some (Stp.next (IntKind.wrap .i64 (a3+1))))
             fun k15 =>
            if 0<a3 then
             (idx p3 (IntKind.wrap .i64 (a3 - 1))).bind fun x22 =>
             k15 (decide (x7.1≤x22.1))
            else
             k15 false)
          fun k12 =>
         if x7.1<0 then
          k12 true
         else
          k12 (decide (p0.2.1≤x7.1))
       else
        some (Stp.exit (Ou.go ()))) 0) (fun a26 =>
       some 0) some
noncomputable def m_slices_Compact_Lapi_Edge_api_Edge (p0:List (TFromLabelTo)):Option ((List (TFromLabelTo))) :=
 if ((p0).length:Int)<2 then
  some p0
 else
  (loopW (S := Int) (X:=Unit) (fun a1 =>
      if a1 < ((p0).length:Int) then
       (idx p0 a1).bind fun x5 =>
       (idx p0 (IntKind.wrap .i64 (a1 - 1))).bind fun x7 =>
       if x5 = x7 then
        if 0 ≤ (a1:Int)∧(a1:Int)≤((p0).length:Int)∧((p0).length:Int)≤(p0.length:Int) then
         (loopW (S:=Int) (X:=Unit) (fun a10 =>
             if a10<(((p0.take (((p0).length:Int)).toNat).drop (a1).toNat).length:Int) then
              (idx ((p0.take (((p0).length:Int)).toNat).drop (a1).toNat) a10).bind fun x14 =>
              (idx ((p0.take (((p0).length:Int)).toNat).drop (a1).toNat) (IntKind.wrap .i64 (a10 - 1))).bind fun x16 =>
              if x14=x16 then
               some (Stp.next (IntKind.wrap .i64 (a10+1)))
              else
               none
             else
              some (Stp.exit ())) 1).bind fun a18 =>
         none
        else none
       else
        some (Stp.next (IntKind.wrap .i64 (a1+1)))
      else
       some (Stp.exit ())) 1).bind fun a20 =>
  some p0
noncomputable def m_graph_Make (p0:Int) (p1:Int) (p2:List (TFromLabelTo)):Option (TLabelsStatesEdges × Int) :=
 (m_slices_Clone_Lapi_Edge_api_Edge p2).bind fun x2 =>
 if (x2).length<4611686018427387904 then
  (m_slices_Compact_Lapi_Edge_api_Edge (sortEd x2)).bind fun x6 =>
  (m_graph_Check (p0,p1,x6)).bind fun x9 =>
  if x9≠0 then
   some ((0,0,[]),x9)
  else
   some ((p0,p1,x6),0)
 else none
noncomputable def m_splitting_Apply (p0:TLabelsStatesEdges) (p1:List (Int)) (p2:Int) (p3:List (TStateParts)):Option (TLabelsStatesEdges × (List (Int)) × (List (Int)) × Int) :=
 (m_splitting_Check p0 p1 p2 p3).bind fun x2 =>
 if x2≠0 then
  some ((0,0,[]),[],[],x2)
 else
  if 0 ≤ (p0.2.1 : Int) ∧ (p0.2.1:Int)≤p0.2.1∧(p0.2.1:Int)*24≤281474976710656 then
   if 0 ≤ (((p0.2.2).length:Int):Int)∧(((p0.2.2).length:Int):Int)≤((p0.2.2).length:Int)∧(((p0.2.2).length:Int):Int)*8≤281474976710656 then
    (loopW (S := Int × (List (List Int)) × (List Int) × (List Int) × (List Int)) (X:=(List (List Int)) × (List Int) × (List Int) × (List Int)) (fun a8 =>
        if a8.1 < p0.2.1 then
         (m_graph_Out p0 a8.1).bind fun x13 =>
         (idx p1 a8.1).bind fun x15 =>
         jp (fun (a17 : Int) =>
           jp (fun (a20 : (List (List (Int))) × (List Int)) =>
             if ((a8.2.1).length:Int)=a8.1∧(a8.2.1).length<(p0.2.1).toNat then
              (loopW (S := Int × (List Int) × (List Int) × (List Int) × (List Int)) (X:=(List Int) × (List Int) × (List Int) × (List Int)) (fun a25 =>
                  if a25.1<((a20.1).length:Int) then
                   (idx a20.1 a25.1).bind fun x29 =>
                   (loopW (S:=Int × (List Int)) (X:=(List Int)) (fun a31 =>
                       if a31.1<((x29).length:Int) then
                        (idx x29 a31.1).bind fun x35 =>
                        (idx a31.2 x35).bind fun x37 =>
                        some (Stp.next (IntKind.wrap .i64 (a31.1+1),(a31.2).set (x35).toNat (((a25.2.2.1).length:Nat):Int)))
                       else
                        some (Stp.exit a31.2)) (0,a25.2.1)).bind fun a39 =>
                   if fits 8 ((a25.2.2.2.2:List Int).length+([(((a25.2.2.1).length:Nat):Int)]).length) then
                    if fits 8 ((a25.2.2.1:List Int).length+([a8.1]).length) then
                     (idx a20.2 a25.1).bind fun x420701 =>
                     if fits 8 ((a25.2.2.2.1:List Int).length+([x420701]).length) then
                      some (Stp.next (IntKind.wrap .i64 (a25.1+1),a39,a25.2.2.1++[a8.1],a25.2.2.2.1++[x420701],a25.2.2.2.2++[(((a25.2.2.1).length:Nat):Int)]))
                     else none
                    else none
                   else none
                  else
                   some (Stp.exit (a25.2.1,a25.2.2.1,a25.2.2.2.1,a25.2.2.2.2))) (0,a8.2.2.1,a8.2.2.2.1,a8.2.2.2.2,([]:List (Int)))).bind fun a43 =>
              some (Stp.next (IntKind.wrap .i64 (a8.1+1),a8.2.1++[a43.2.2.2],a43.1,a43.2.1,a43.2.2.1))
             else none)
             fun k22 =>
            if 0≤a17 then
             (idx p3 a17).bind fun x46 =>
             (idx p3 a17).bind fun x48 =>
             (m_splitting_weights p0 p1 p2 x48).bind fun x50 =>
             k22 (x46.2,x50.1)
            else
             k22 ([x13.1],[x15]))
           fun k19 =>
          lpO (loopW (S:=Int) (X:=Ou (Unit) (Int)) (fun a52 =>
              if a52<((p3).length:Int) then
               (idx p3 a52).bind fun x56 =>
               jp (fun (a58:Unit) =>
                 if x56.1=a8.1 then
                  some (Stp.exit (Ou.ret a52))
                 else
                  some (Stp.next (IntKind.wrap .i64 (a52+1))))
                 fun k60 =>
                k60 ()
              else
               some (Stp.exit (Ou.go ()))) 0) (fun a61 =>
              k19 (-1)) k19
        else
         some (Stp.exit (a8.2.1,a8.2.2.1,a8.2.2.2.1,a8.2.2.2.2))) (0,([]:List (List Int)),List.replicate (((p0.2.2).length:Int)).toNat (0:Int),([]:List Int),([]:List Int))).bind fun a65 =>
    if (a65.1).length=(p0.2.1).toNat then
     (loopW (S := Int × (List TFromLabelTo)) (X:=(List TFromLabelTo)) (fun a68 =>
         if a68.1<((p0.2.2).length:Int) then
          (idx p0.2.2 a68.1).bind fun x72 =>
          (idx a65.1 x72.2.2).bind fun x75 =>
          (idx a65.1 x72.2.2).bind fun x77 =>
          (loopW (S:=Int × (List TFromLabelTo)) (X:=(List TFromLabelTo)) (fun a79 =>
              if a79.1<((x77).length:Int) then
               (idx x77 a79.1).bind fun x83 =>
               (idx a65.2.1 a68.1).bind fun x85 =>
               (idx a65.2.1 a68.1).bind fun x87 =>
               if fits 24 ((a79.2:List TFromLabelTo).length+([(x87,x72.2.1,x83)]).length) then
                some (Stp.next (IntKind.wrap .i64 (a79.1+1),a79.2++[(x87,x72.2.1,x83)]))
               else none
              else
               some (Stp.exit a79.2)) (0,a68.2)).bind fun a91 =>
          some (Stp.next (IntKind.wrap .i64 (a68.1+1),a91))
         else
          some (Stp.exit a68.2)) (0,([]:List TFromLabelTo))).bind fun a94 =>
     (m_graph_Make p0.1 (((a65.2.2.1).length:Nat):Int) a94).bind fun x96 =>
     if x96.2≠0 then
      some ((0,0,[]),[],[],4)
     else
      some (x96.1,a65.2.2.2,a65.2.2.1,0)
    else none
   else none
  else none
noncomputable def m_splitting_light_1 (p0:Int):Option (Bool) :=
 some (decide (p0≠1))
noncomputable def m_splitting_light (p0:List (Int)):Option (Bool) :=
 (m_slices_ContainsFunc_Lint_int p0 (fun b0=>m_splitting_light_1 b0 )).bind fun x1 =>
 some (!x1)
noncomputable def m_splitting_follow (p0:TGraphWeightsInputsRounds) (p1:(List (Int))→Option (Unit)):Option (TLabelsStatesEdges × Int) :=
 (m_splitting_base (p0.1.1,p0.1.2.1,p0.1.2.2) p0.2.1 p0.2.2.1).bind fun x2 =>
 if x2≠0 then
  some ((0,0,[]),x2)
 else
  if 64<((p0.2.2.2).length:Int) then
   some ((0,0,[]),4)
  else
   lpO (loopW (S:=(List Int) × Int × Int × Int × (List TFromLabelTo)) (X:=Ou (Int × Int × (List TFromLabelTo) × (List Int)) (TLabelsStatesEdges × Int)) (fun a5 =>
       if a5.2.1<((p0.2.2.2).length:Int) then
        (idx p0.2.2.2 a5.2.1).bind fun x9 =>
        (m_splitting_Apply (a5.2.2.1,a5.2.2.2.1,a5.2.2.2.2) a5.1 p0.2.2.1 x9).bind fun x11 =>
        if x11.2.2.2≠0 then
         some (Stp.exit (Ou.ret ((0,0,[]),x11.2.2.2)))
        else
         (p1 x11.2.2.1).bind fun x14 =>
         some (Stp.next (x11.2.1,IntKind.wrap .i64 (a5.2.1+1),x11.1.1,x11.1.2.1,x11.1.2.2))
       else
        some (Stp.exit (Ou.go (a5.2.2.1,a5.2.2.2.1,a5.2.2.2.2,a5.1)))) (p0.2.1,0,p0.1.1,p0.1.2.1,p0.1.2.2)) (fun a16 =>
       (m_splitting_light a16.2.2.2).bind fun x18 =>
       if (!x18)=true then
        some ((0,0,[]),23)
       else
        some ((a16.1,a16.2.1,a16.2.2.1),0)) some
noncomputable def m_splitting_Verify_1 (p0:List (Int)):Option (Unit) :=
 some ()
noncomputable def m_splitting_Verify (p0:TGraphWeightsInputsRounds):Option (Int) :=
 (m_splitting_follow p0 (fun b0=>m_splitting_Verify_1 b0 )).bind fun x1 =>
 some x1.2
noncomputable def m_splitting_Final (p0:TGraphWeightsInputsRounds):Option (TLabelsStatesEdges × (List (Int)) × Int) :=
 (loopW (S:=Int × (List Int)) (X:=(List Int)) (fun a3 =>
     if a3.1<(min (max p0.1.2.1 0) 64) then
      if fits 8 ((a3.2:List Int).length+([a3.1]).length) then
       some (Stp.next (IntKind.wrap .i64 (a3.1+1),a3.2++[a3.1]))
      else none
     else
      some (Stp.exit a3.2)) (0,([]:List Int))).bind fun a10 =>
 jp (fun (a12 : (List Int) × TLabelsStatesEdges) =>
   if (0:Int)≠0 then
    some ((0,0,[]),[],0)
   else
    (m_slices_Clone_Lapi_Edge_api_Edge a12.2.2.2).bind fun x16 =>
    some ((a12.2.1,a12.2.2.1,x16),a12.1,0))
   fun k14 =>
  (m_splitting_base (p0.1.1,p0.1.2.1,p0.1.2.2) p0.2.1 p0.2.2.1).bind fun x21 =>
  if x21≠0 then
   none
  else
   if 64<((p0.2.2.2).length:Int) then
    none
   else
    (loopW (S := (List Int) × Int × Int × Int × (List TFromLabelTo) × (List Int)) (X:=Int × Int × (List TFromLabelTo) × (List Int) × (List Int)) (fun a24 =>
        if a24.2.1<((p0.2.2.2).length:Int) then
         (idx p0.2.2.2 a24.2.1).bind fun x28 =>
         (m_splitting_Apply (a24.2.2.1,a24.2.2.2.1,a24.2.2.2.2.1) a24.1 p0.2.2.1 x28).bind fun x30 =>
         if x30.2.2.2≠0 then
          none
         else
          jp (fun (a33:(List Int)) =>
            some (Stp.next (x30.2.1,IntKind.wrap .i64 (a24.2.1+1),x30.1.1,x30.1.2.1,x30.1.2.2,a33)))
            fun k35 =>
           if 0 ≤ (((x30.2.2.1).length:Int):Int)∧(((x30.2.2.1).length:Int):Int)≤((x30.2.2.1).length:Int)∧(((x30.2.2.1).length:Int):Int)*8≤281474976710656 then
            (loopW (S:=Int × (List Int)) (X:=(List Int)) (fun a38 =>
                if a38.1<((x30.2.2.1).length:Int) then
                 (idx x30.2.2.1 a38.1).bind fun x42 =>
                 (idx a24.2.2.2.2.2 x42).bind fun x44 =>
                 (idx a38.2 a38.1).bind fun x46 =>
                 some (Stp.next (IntKind.wrap .i64 (a38.1+1),(a38.2).set (a38.1).toNat x44))
                else
                 some (Stp.exit a38.2)) (0,List.replicate (((x30.2.2.1).length:Int)).toNat (0:Int))).bind fun a48 =>
            k35 a48
           else none
        else
         some (Stp.exit (a24.2.2.1,a24.2.2.2.1,a24.2.2.2.2.1,a24.2.2.2.2.2,a24.1))) (p0.2.1,0,p0.1.1,p0.1.2.1,p0.1.2.2,a10)).bind fun a50 =>
    (m_splitting_light a50.2.2.2.2).bind fun x52 =>
    if (!x52)=true then
     none
    else
     k14 (a50.2.2.2.1,(a50.1,a50.2.1,a50.2.2.1))
noncomputable def m_top_TopSplitWords (p0:TGraphWeightsInputsRounds):Option (Bool) :=
 jp (fun (a1 : Bool) =>
   if a1=true then
    (m_top_top27Awake).bind fun x4 =>
    some x4
   else
    (m_splitting_Final p0).bind fun x6 =>
    jp (fun (a9 : Bool) =>
      if a9=true then
       some false
      else
       (m_top_top27Alike (p0.1.1,p0.1.2.1,p0.1.2.2) x6.1).bind fun x12 =>
       jp (fun (a14:Bool) =>
         if a14=true then
          some false
         else
          if 0 < ((p0.2.2.2).length:Int) then
           (idx p0.2.2.2 0).bind fun x170801 =>
           (m_splitting_Apply (p0.1.1,p0.1.2.1,p0.1.2.2) p0.2.1 p0.2.2.1 x170801).bind fun x171001 =>
           jp (fun (a18:Bool) =>
             if a18=true then
              some false
             else
              (m_top_top27Alike (p0.1.1,p0.1.2.1,p0.1.2.2) x171001.1).bind fun x21 =>
              jp (fun (a23:Bool) =>
                some a23)
                fun k25 =>
               if x21.2.2=true then
                if x21.2.1=true then
                 (m_top_top27Awake).bind fun x26 =>
                 k25 x26
                else
                 k25 false
               else
                k25 false)
             fun k20 =>
            if x171001.2.2.2≠0 then
             k20 true
            else
             (m_eigenvector_Check x171001.1 x171001.2.1 p0.2.2.1).bind fun x30 =>
             k20 (decide (x30≠0))
          else
           (m_top_top27Awake).bind fun x33 =>
           some x33)
         fun k16 =>
        if (!x12.2.2)=true then
         k16 true
        else
         k16 (!x12.2.1))
      fun k11 =>
     if x6.2.2≠0 then
      k11 true
     else
      k11 (decide (64<x6.1.2.1)))
   fun k3 =>
  (m_ref24_Great p0).bind fun x37 =>
  if x37=true then
   k3 true
  else
   if 8<p0.1.2.1 then
    k3 true
   else
    if 16<p0.1.1 then
     k3 true
    else
     (m_splitting_Verify p0).bind fun x39 =>
     k3 (decide (x39≠0))
section
variable {P:Program} {s:AS}
theorem v_arrP {t e:TypeId} {len a b:Nat} {z:Value} {x i:Operand} {k id ver off:Nat} {o:AObj} {k':IntKind} {j:Int} (hT:ty P t=some ⟨.array len e,a,b,z⟩) (hE:elemSize P t=some k) (hx:s.ev x=some (.ptr id ver off)) (hi:s.ev i=some (.int k' j)) (hj:0≤j∧j<len) (hg:hget s.heap id=some (ver,o)) :
  aval P (.indexAddr t x i) s (· = .ptr id ver (off+j.toNat*k)):=by
 simp only [aval,hT,hE,hx,hi];exact ⟨hj.1,hj.2,by simp only [alive,hg],trivial⟩
theorem v_arrPc (c:Nat) {t e:TypeId} {len a b:Nat} {z:Value} {x i:Operand} {k id ver off:Nat} {o:AObj} {k':IntKind} {j:Int} (hT:ty P t=some ⟨.array len e,a,b,z⟩) (hE:elemSize P t=some k) (hx:s.ev x=some (.ptr id ver off)) (hi:s.ev i=some (.int k' j)) (hj:j=(c:Int)) (hc:c<len) (hg:hget s.heap id=some (ver,o)) :
  aval P (.indexAddr t x i) s (· = .ptr id ver (off+c*k)):=by
 subst hj;exact v_arrP hT hE hx hi ⟨by omega,by omega⟩ hg
end
section
variable {P:Program} {ro:Option Nat} {N B:Nat} {s:AS} {all:Array Oper} {rest:List Oper} {o:Oper} {K:AS→Prop} {sl:List (Nat × HV)} {H:Heap}
end
structure Lq {α:Type} (x y:Option α):Prop where
 ap:∀ r,x=some r→y=some r
theorem Lq.refl {α:Type} (x:Option α):Lq x x:=⟨fun _ h=>h⟩
theorem Lq.none {α:Type} {y:Option α}:Lq Option.none y:=⟨fun _ h=>by cases h⟩
theorem Lq.bind {α β:Type} {x y:Option α} {f g:α→Option β} (h:Lq x y) (hk:∀ a,Lq (f a) (g a)):Lq (x.bind f) (y.bind g):=by
 refine ⟨fun r hr=>?_⟩;obtain ⟨a,ha,hf⟩:=bS hr;rw [h.ap a ha];exact (hk a).ap r hf
theorem Lq.jp {S R:Type} {M M':S→Option R} {B B':(S→Option R)→Option R} (hM:∀ a,Lq (M a) (M' a)) (hB:∀ k k':S→Option R,(∀ a,Lq (k a) (k' a))→Lq (B k) (B' k')):Lq (Go.AW.jp M B) (Go.AW.jp M' B'):=hB _ _ hM
theorem iter_mono {S X:Type} {f g:S→Option (Stp S X)} (h:∀ s,Lq (f s) (g s)):∀ (n:Nat) (s:S) (r:X),iter f n s=some r→iter g n s=some r
 | 0,_,_,hr=>hr
 | n+1,s,r,hr=>by
  simp only [iter] at hr ⊢;split at hr
  ·rename_i s' hs
   rw [(h s).ap _ hs];exact iter_mono h n s' r hr
  ·rename_i x hs
   rw [(h s).ap _ hs];exact hr
  cases hr
def loopE {S X:Type} (body:S→Option (Stp S X)) (s:S):Option X:=iter body 1000000 s
theorem Lq.loop {S X:Type} {f g:S→Option (Stp S X)} {s:S} (h:∀ s,Lq (f s) (g s)):Lq (loopE f s) (loopW g s):=⟨fun r hr=>loopW_of (iter_mono h _ s r hr)⟩
theorem Lq.lpO {V R Y:Type} {x y:Option (Ou V R)} {M M':V→Option Y} {Rt Rt':R→Option Y} (h:Lq x y) (hM:∀ v,Lq (M v) (M' v)) (hR:∀ r,Lq (Rt r) (Rt' r)):Lq (Go.AW.lpO x M Rt) (Go.AW.lpO y M' Rt'):=by
 refine ⟨fun r hr=>?_⟩;unfold Go.AW.lpO at hr ⊢;split at hr
 ·rename_i v
  rw [h.ap _ rfl]; exact (hM v).ap r hr
 ·rename_i v
  rw [h.ap _ rfl]; exact (hR v).ap r hr
 cases hr
theorem forL_mono {S α X:Type} {f g:S→α→Option (Stp S X)} (h:∀ s a,Lq (f s a) (g s a)):∀ (l:List α) (s:S) (r:Ou S X),forL f l s=some r→forL g l s=some r
 | [],_,_,hr=>hr
 | x::l,s,r,hr=>by
  simp only [forL] at hr ⊢;split at hr
  ·rename_i s' hs
   rw [(h s x).ap _ hs];exact forL_mono h l s' r hr
  ·rename_i y hs
   rw [(h s x).ap _ hs];exact hr
  cases hr
theorem Lq.forL {S α X:Type} {f g:S→α→Option (Stp S X)} {l:List α} {s:S} (h:∀ s a,Lq (f s a) (g s a)):Lq (Go.AW.forL f l s) (Go.AW.forL g l s):=⟨forL_mono h l s⟩
section
variable {α:Type} {en:EncL α} {et:TypeId}
structure InvG (b np sp:Nat) (base:List (Nat × HV)) (val:Nat→Nat→HV) (H0:Heap) (H1:Nat→Heap) (v':Nat) (L:List Nat) (s:AS):Prop where
 base:∀ p∈base,sget s.slots p.1=some p.2
 val:∀ k∈L,k<np→sget s.slots (b+k)=some (val v' k)
 heap:∀ id x,hget (if sp∈L then H1 v' else H0) id=some x→hget s.heap id=some x
theorem sget_putB {b i:Nat} {hv:HV} {sl:List (Nat × HV)} {t:Nat} (h:t≠b+i):sget ((b+i,hv)::sl) t=sget sl t:=by simp only [sget]; rw [if_neg h]
theorem InvG.put {b np sp:Nat} {base:List (Nat × HV)} {val:Nat→Nat→HV} {H0:Heap} {H1:Nat→Heap} {v':Nat} {L:List Nat} {sl:List (Nat × HV)} {H:Heap} (h:InvG b np sp base val H0 H1 v' L ⟨sl,H⟩) (hb:∀ p∈base,p.1<b) {i:Nat} (hi:i≠sp) {hv:HV} (hval:val v' i=hv):InvG b np sp base val H0 H1 v' (i::L) ⟨(b+i,hv)::sl,H⟩ where
 base:=fun p hp=>by
  have:=hb p hp;show sget ((b+i,hv)::sl) p.1=_;rw [sget_putB (by omega)];exact h.base p hp
 val:=fun k hk h12=>by
  show sget ((b+i,hv)::sl) (b+k)=_;by_cases e:k=i
  ·subst e
   simp only [sget,if_true,hval]
  rw [sget_putB (by omega)]
  rcases List.mem_cons.1 hk with h1 | h1
  ·exact absurd h1 e
  exact h.val k h1 h12
 heap:=fun id x hx=>by
  refine h.heap id x ?_
  have:(sp∈i::L)↔sp∈L:=by
   rw [List.mem_cons];exact ⟨fun h=>h.elim (fun e=>absurd e.symm hi) (fun h=>h),.inr⟩
  by_cases h11:sp∈L
  ·rw [if_pos (this.2 h11)] at hx
   rw [if_pos h11]; exact hx
  rw [if_neg (fun h=>h11 (this.1 h))] at hx;rw [if_neg h11]; exact hx
end
end Go.AW
namespace Go.AW
open Go
set_option linter.unusedVariables false
structure InvT (b np:Nat) (base:List (Nat × HV)) (val:Nat→HV) (Hp:Heap→Prop) (L:List Nat) (s:AS):Prop where
 base:∀ p∈base,sget s.slots p.1=some p.2
 val:∀ k∈L,k<np→sget s.slots (b+k)=some (val k)
 heap:Hp s.heap
theorem InvT.put {b np:Nat} {base:List (Nat × HV)} {val:Nat→HV} {Hp:Heap→Prop} {L:List Nat} {sl:List (Nat × HV)} {H H':Heap} (h:InvT b np base val Hp L ⟨sl,H⟩) (hb:∀ p∈base,p.1<b) {i:Nat} {hv:HV} (hval:val i=hv) (hH:Hp H'):InvT b np base val Hp (i::L) ⟨(b+i,hv)::sl,H'⟩ where
 base:=fun p hp=>by
  have:=hb p hp;show sget ((b+i,hv)::sl) p.1=_;rw [sget_putB (by omega)];exact h.base p hp
 val:=fun k hk h12=>by
  show sget ((b+i,hv)::sl) (b+k)=_;by_cases e:k=i
  ·subst e
   simp only [sget,if_true,hval]
  rw [sget_putB (by omega)]
  rcases List.mem_cons.1 hk with h1 | h1
  ·exact absurd h1 e
  exact h.val k h1 h12
 heap:=hH
end Go.AW
namespace Go.AW
open Go
end Go.AW
namespace Go.AW
open Go
section
variable {w:World} {μ μ':Mu}
structure Near (μ μ':Mu):Prop where
 live:∀ id ver b,μ.loc id=some (ver,b)→μ'.loc id=some (ver,b)∨μ'.dead id ver
 dead:∀ id ver,μ.dead id ver→μ'.dead id ver
 owns:∀ b,¬ μ.owns b→¬ μ'.owns b
 back:∀ id ver b,μ'.loc id=some (ver,b)→ver<μ.nx→μ.loc id=some (ver,b)
 nx:μ.nx≤μ'.nx
mutual
theorem Rep.near (N:Near μ μ'):∀ (hv:HV) (val:Value),Rep w μ hv val→Rep w μ' hv val
 | .int _ _,_,h=>h
 | .bool _,_,h=>h
 | .str _,_,h=>h
 | .v _,_,h=>h
 | .agg cs,_,⟨h1,vs,e,h⟩=>⟨h1,vs,e,RepL.near N cs vs h⟩
 | .tup cs,_,⟨vs,e,h⟩=>⟨vs,e,RepL.near N cs vs h⟩
 | .sl _ _ cs,_,⟨h1,hl,hm,h⟩=>⟨h1,hl,hm,h.imp id fun ⟨b,off,cap,vs,e,hn,ho,hs,hr⟩=>⟨b,off,cap,vs,e,hn,N.owns b ho,hs,RepL.near N cs vs hr⟩⟩
 | .ar id ver k off n,val,h=>by
  rcases h with ⟨l,hl,h⟩ | ⟨hd,h⟩
  ·rcases N.live id ver l hl with hl' | hd
   ·exact .inl ⟨l,hl',h⟩
   refine .inr ⟨hd,?_⟩
   rcases h with ⟨_,rfl,_⟩ | ⟨b,cap,cur,e,rfl,rfl,_⟩
   ·exact ⟨_,_,_,rfl⟩
   exact ⟨_,_,_,rfl⟩
  exact .inr ⟨N.dead _ _ hd,h⟩
 | .ptr id ver off,val,h=>by
  rcases h with ⟨b,hl,rfl⟩ | ⟨hd,h⟩
  ·rcases N.live id ver _ hl with hl' | hd
   ·exact .inl ⟨b,hl',rfl⟩
   exact .inr ⟨hd,_,rfl⟩
  exact .inr ⟨N.dead _ _ hd,h⟩
 | .fptr cs _,_,⟨h1,b,base,vs,e,ho,hs,hr⟩=>⟨h1,b,base,vs,e,N.owns b ho,hs,RepL.near N cs vs hr⟩
 | .fn _ fs cs,_,⟨us,vs,e,h1,h2⟩=>⟨us,vs,e,RepL.near N fs us h1,RepL.near N cs vs h2⟩
 | .mp id ver,val,h=>by
  rcases h with ⟨b,hl,rfl⟩ | ⟨hd,h⟩
  ·rcases N.live id ver _ hl with hl' | hd
   ·exact .inl ⟨b,hl',rfl⟩
   exact .inr ⟨hd,_,rfl⟩
  exact .inr ⟨N.dead _ _ hd,h⟩
 | .yl id ver,val,h=>by
  rcases h with ⟨b,hl,rfl⟩ | ⟨hd,h⟩
  ·rcases N.live id ver _ hl with hl' | hd
   ·exact .inl ⟨b,hl',rfl⟩
   exact .inr ⟨hd,_,rfl⟩
  exact .inr ⟨N.dead _ _ hd,h⟩
 | .it id ver,val,h=>by
  rcases h with ⟨b,hl,rfl⟩ | ⟨hd,h⟩
  ·rcases N.live id ver _ hl with hl' | hd
   ·exact .inl ⟨b,hl',rfl⟩
   exact .inr ⟨hd,_,rfl⟩
  exact .inr ⟨N.dead _ _ hd,h⟩
theorem RepL.near (N:Near μ μ'):∀ (cs:List HV) (vs:List Value),RepL w μ cs vs→RepL w μ' cs vs
 | [],_,h=>h
 | c::cs,_,⟨x,xs,e,h1,h2⟩=>⟨x,xs,e,Rep.near N c x h1,RepL.near N cs xs h2⟩
end
theorem OR.near (N:Near μ μ') {o:AObj} {l:Option Nat} (h:OR w μ o l):OR w μ' o l:=by
 cases l with
 | none=>cases o <;> exact h
 | some b =>
  cases o with
  | arr k e cs =>
   obtain ⟨h0,cur,vs,rest,h1,h2,h3⟩:=h;exact ⟨h0,cur,vs,rest,h1,h2,RepL.near N _ _ h3⟩
  | map es =>
   obtain ⟨ents,clock,h1,h2,h3,h4,h5⟩:=h;exact ⟨ents,clock,h1,h2,RepL.near N _ _ h3,h4,h5⟩
  | iter mid mver seen cur =>
   obtain ⟨h0,mb,since,sn,last,h1,h2⟩:=h;exact ⟨Nat.lt_of_lt_of_le h0 N.nx,mb,since,sn,last,h1,fun l hl'=>h2 l (N.back _ _ _ hl' h0)⟩
  | loop st pend f n snap ps assign body =>
   obtain ⟨tmps,dfr,h1,h2,h3⟩:=h;exact ⟨tmps,dfr,h1,h2,fun t hv ht=>⟨(h3 t hv ht).1,Rep.near N _ _ (h3 t hv ht).2⟩⟩
  | kmap es=>exact h
  | gmap es pe =>
   obtain ⟨ents,clock,h1,h2,h3,h4⟩:=h;exact ⟨ents,clock,h1,h2,RepL.near N _ _ h3,h4⟩
end
section
variable {P:Program} {ro:Option Nat} {N:Nat}
end
end Go.AW
namespace Go.AW
open Go
end Go.AW
namespace Go.AW
open Go
section
variable {w w':World} {μ:Mu} {H:Heap}
end
section
variable {P:Program} {ro:Option Nat} {N B:Nat} {s:AS} {all:Array Oper} {rest:List Oper} {o:Oper} {K:AS→Prop} {sl:List (Nat × HV)} {H:Heap}
end
def rowsN (D:List (List Int)) (n:Nat):List HV:=D.map (slE eInt)++List.replicate (n - D.length) (.v (.slice none 0 0))
def rowsH (D:List (List Int)) (v:HV) (n:Nat):List HV:=D.map (slE eInt)++v::List.replicate (n - D.length - 1) (.v (.slice none 0 0))
theorem rowsN_split {D:List (List Int)} {n:Nat} (h:D.length<n):rowsN D n=rowsH D (.v (.slice none 0 0)) n:=by
 unfold rowsN rowsH;obtain ⟨k,hk⟩:∃ k,n - D.length=k+1:=⟨n - D.length - 1,by omega⟩;rw [hk,List.replicate_succ,Nat.add_sub_cancel]
theorem rowsH_get (D:List (List Int)) (v:HV) (n:Nat):(rowsH D v n)[D.length]?=some v:=by
 unfold rowsH;rw [List.getElem?_append_right (by rw [List.length_map]; omega),List.length_map,Nat.sub_self];rfl
theorem rowsH_set (D:List (List Int)) (v v':HV) (n:Nat):(rowsH D v n).set D.length v'=rowsH D v' n:=by
 unfold rowsH;rw [List.set_append_right _ _ (by rw [List.length_map]; omega),List.length_map,Nat.sub_self,List.set_cons_zero]
theorem rowsH_len (D:List (List Int)) (v:HV) (n:Nat):D.length+1≤(rowsH D v n).length:=by
 unfold rowsH;rw [List.length_append,List.length_map,List.length_cons];omega
theorem rowsN_full {D:List (List Int)} {n:Nat} (h:D.length=n):rowsN D n=(eSl eInt).E D:=by
 unfold rowsN;rw [h,Nat.sub_self,List.replicate_zero,List.append_nil];rfl
theorem rowsH_frz {Dh:Heap} {C ver n:Nat} {D:List (List Int)} {m:List Int} (hg:hget Dh C=some (ver,.arr 1 3 (eInt.E m))) (hn:D.length<n):rowsN (D++[m]) n=(rowsH D (.ar C ver 1 0 m.length) n).map (frz 2 Dh):=by
 unfold rowsN rowsH;have h1:frz 2 Dh (.ar C ver 1 0 m.length)=slE eInt m:=frz_slE eInt (D:=Dh) (l:=m) hg fun _ _=>rfl
 have h2:(D.map (slE eInt)).map (frz 2 Dh)=D.map (slE eInt):=by
  rw [List.map_map];exact List.map_congr_left fun l _=>rfl
 have h3:(List.replicate (n - D.length - 1) (HV.v (.slice none 0 0))).map (frz 2 Dh)=List.replicate (n - D.length - 1) (HV.v (.slice none 0 0)):=by
  rw [List.map_replicate];rfl
 simp only [List.map_append,List.map_cons,List.map_nil];rw [h1,h2,h3,List.append_assoc,List.length_append,List.length_singleton,Nat.sub_add_eq];rfl
theorem ridx {D:List (List Int)} {s:Int} {n:Nat} (h:(D.length:Int)=s∧D.length<n):0≤s∧s<(n:Int):=by omega
section
variable {P:Program} {ro:Option Nat} {N:Nat} {all:Array Oper} {rest:List Oper} {o:Oper} {K:AS→Prop} {fid:Nat} {sl:List (Nat × HV)} {H:Heap}
theorem l_rowH {D:List (List Int)} {s:Int} {n:Nat} {v:HV} {T:TyI} (h:(D.length:Int)=s∧D.length<n) (ha:aggD T.desc=false):loadK T (rowsH D v n) (s.toNat*1) (· = v):=by
 refine l_lit ha ?_;rw [show s.toNat*1=D.length by omega];exact rowsH_get D v n
theorem o_storeR {t:TypeId} {x y:Operand} {id ver n:Nat} {e:TypeId} {hv v0:HV} {T:TyI} {D:List (List Int)} {j:Int} (h0:(o.dst,o.op)=(none,.store t x y)) (hx:(⟨sl,H⟩:AS).ev x=some (.ptr id ver (j.toNat*1))) (hy:(⟨sl,H⟩:AS).ev y=some hv) (hT:ty P t=some T) (hc:hv.cells?=some [hv])
  (hg:hget H id=some (ver,.arr 1 e (rowsH D v0 n))) (h1:T.size=1) (hj:(D.length:Int)=j∧D.length<n) (kk:bops P ro N all rest K ⟨sl,(id,ver,.arr 1 e (rowsH D hv n))::H⟩):aop P 0 [] o (fun s'=>bops P ro N all rest K s') ⟨sl,H⟩:=by
 have ej:j.toNat*1=D.length:=by omega
 have hlen:=rowsH_len D v0 n;refine o_store (cs:=[hv]) (zs:=rowsH D hv n) h0 hx hy hT hc hg h1 ?_ ?_ kk
 ·rw [ej]
  exact Nat.ble_eq_true_of_le (by show D.length+1≤_; omega)
 rw [ej,splice_one hv (by omega),rowsH_set]
theorem o_makeR {d:Nat} {t e:TypeId} {a b:Nat} {z:Value} {x y:Operand} {l m:Int} {Te:TyI} (id:Nat) (h0:(o.dst,o.op)=(some d,.makeSlice t x y)) (hid:fid*1000+d=id) (hT:ty P t=some ⟨.slice e,a,b,z⟩) (hx:(⟨sl,H⟩:AS).ev x=some (.int .i64 l)) (hy:(⟨sl,H⟩:AS).ev y=some (.int .i64 m)) (hTe:ty P e=some Te)
  (hz:zcells Te.zero=some [.v (.slice none 0 0)]) (h1:Te.size=1) (h2:0≤l∧l≤m∧m*Te.bytes≤281474976710656)
  (k:∀ ver,bops P ro N all rest K ⟨(d,.ar id ver 1 0 l.toNat)::sl,(id,ver,.arr 1 e (rowsN [] l.toNat))::H⟩):aop P fid [] o (fun s'=>bops P ro N all rest K s') ⟨sl,H⟩:=by
 refine o_makeE (encM fun _:Unit=>HV.v (.slice none 0 0)) () id h0 hid hT hx hy hTe hz h1 h2 fun ver=>?_;have e1:(List.replicate l.toNat ()).length=l.toNat:=List.length_replicate
 have e2:(encM fun _:Unit=>HV.v (.slice none 0 0)).E (List.replicate l.toNat ())=rowsN [] l.toNat:=by
  show (List.replicate l.toNat ()).map _=_;rw [List.map_replicate];rfl
 rw [e1,e2];exact k ver
end
section
variable {s:AS} {G:AS→Prop}
theorem to_ownR (C oid over:Nat) {D:List (List Int)} {n:Nat} {e:TypeId} (hn:D.length<n) (ho:hget s.heap oid=some (over,.arr 1 e (rowsN D n))) (hne:oid≠C)
  (h:∀ ver,G ⟨s.slots,(C,ver,.arr 1 3 (eInt.E []))::(oid,over,.arr 1 e (rowsH D (.ar C ver 1 0 0) n))::s.heap⟩):s.to G:=by
 rw [rowsN_split hn] at ho;refine to_ownC C oid over 1 D.length 1 3 e ho (rowsH_get D _ n) hne fun ver=>?_;rw [rowsH_set];exact h ver
theorem to_rowsL (t oid:Nat) {ver:Nat} {D:List (List Int)} {n:Nat} {e:TypeId} (hs:sget s.slots t=some (.ar oid ver 1 0 n)) (ho:hget s.heap oid=some (ver,.arr 1 e (rowsN D n))) (hn:D.length=n)
  (h:G ⟨(t,.ar oid ver (eSl eInt).k 0 D.length)::s.slots,(oid,ver,.arr (eSl eInt).k e ((eSl eInt).E D))::s.heap⟩):s.to G:=by
 rw [rowsN_full hn] at ho;rw [← hn] at hs;refine to_le ⟨fun j hv hj=>?_,fun j x hj=>?_⟩ h
 ·simp only [sget] at hj
  split at hj
  ·rename_i e1
   subst e1;cases hj;exact hs
  exact hj
 simp only [hget] at hj;split at hj
 ·rename_i e1
  subst e1;cases hj;exact ho
 exact hj
end
open Go.Proofs
set_option maxHeartbeats 1600000
set_option maxRecDepth 100000
set_option linter.unusedVariables false
theorem w_ref24_GreatRound {p0:List (TStateParts)} {r:Bool} (h:m_ref24_GreatRound p0=some r):Pure Tryz.prog 11 [slE eStateParts p0] (· = HV.bool r):=by
 unfold m_ref24_GreatRound at h;refine Pure.of_body Tryz.func11 rfl rfl (lb rfl) fun hf=>?_;unfold Tryz.f11;dsimp only [enumS,Nat.reduceAdd];refine AW.rgs rfl fun K hK=>mv rfl rfl ?_;let P1:ASf:=fun t H=>⟨(0,slE eStateParts p0)::t,H⟩;refine bf hK (P1 [] []) ?_;refine AW.seq ?_;refine AW.rgs rfl fun K hK=>mv rfl rfl ?_;refine bf hK (P1 [(3,hI 0)] []) ?_;refine AW.lpR h (by first | exact up_then | exact up_to) (S:=Int) (V:=Unit) (fun a v=>(P1 [(3,hI a)] [])) ?_ (X:=Unit) (W:=Unit) (fun a v=>(P1 [] [])) (fun a19 w20 h=>?_) (fun a1 w2 st3 h hr4=> ?_)
 ·exact to_L ⟨(),rfl⟩
 ·refine AW.rgs rfl fun K hK=>mv rfl rfl (bv rfl (v_lenF rfl rfl ty39 rfl) (bv rfl (v_bin rfl rfl b_gtr) (mv rfl rfl ?_)))
  refine bf hK ⟨[(2,.bool (decide (8<((p0).length:Int))))],[]⟩ ?_;obtain rfl:=oi h;exact AW.ret (ret_pure (.inr rfl) (resT rfl rfl) rfl trivial)
 refine AW.seq ?_;refine AW.rgs rfl fun K hK=>mv rfl rfl (mv rfl rfl (bv rfl (v_lenF rfl rfl ty39 rfl) (bv rfl (v_bin rfl rfl b_lss) ?_)));refine bf hK (P1 [(3,hI a1),(8,.bool (decide (a1<((p0).length:Int))))] []) ?_;refine AW.cond rfl (fun hc=>?_) (fun hc=>?_)
 ·obtain ⟨hc,h⟩:=cT hc h
  refine AW.skip ?_;refine AW.seq (AW.block ?_);refine AW.seq ?_;refine AW.rgs rfl fun K hK=>mv rfl rfl (mv rfl rfl ?_);obtain ⟨x5,h6,h⟩:=bS h;refine bv rfl (v_idxF ty39 es39 rfl rfl (idx_lt h6)) (bv rfl (v_fieldAddrF fo65_1 rfl) (bv rfl (v_loadF ty47 rfl (l_cell eStateParts h6 (o:=1) rfl rfl)) (bv rfl (v_lenF rfl rfl ty47 rfl) (bv rfl (v_bin rfl rfl b_gtr) ?_))));refine bf hK (P1 [(3,hI a1),(17,.bool (decide (6<((x5.2).length:Int))))] []) ?_;refine AW.cond rfl (fun hc=>?_) (fun hc=>?_)
  ·obtain ⟨hc,h⟩:=cT hc h
   refine AW.rgs rfl fun K hK=>mv rfl rfl ?_;refine bf hK ⟨[(2,.bool true)],[]⟩ ?_;have h:=hr4 _ h;obtain rfl:=oi h;exact AW.ret (ret_pure (.inr rfl) (resT rfl rfl) rfl trivial)
  obtain ⟨hc,h⟩:=cF hc h;refine AW.skip ?_;refine AW.rgs rfl fun K hK=>mv rfl rfl ?_;refine bf hK (P1 [(3,hI a1),(4,hI 0)] []) ?_;refine AW.lpR h (by first | exact up_then | exact up_to) (S:=Int) (V:=Unit) (fun a v=>(P1 [(3,hI a1),(4,hI a)] [])) ?_ (X:=Unit) (W:=Unit) (fun a v=>(P1 [(3,hI a1)] [])) (fun a17 w18 h=>?_) (fun a7 w8 st9 h hr10=> ?_)
  ·exact to_L ⟨(),rfl⟩
  ·refine AW.rg rfl fun K hK=>mv rfl rfl (bv rfl (v_bin rfl rfl b_add) (mv rfl rfl ?_))
   refine b_nil (hK _ ?_);exact to_L ⟨IntKind.wrap .i64 (a1+1),(),h,rfl⟩
  refine AW.seq ?_;refine AW.rgs rfl fun K hK=>mv rfl rfl (mv rfl rfl (mv rfl rfl ?_));obtain ⟨x11,h12,h⟩:=bS h;refine bv rfl (v_idxF ty39 es39 rfl rfl (idx_lt h12)) (bv rfl (v_fieldAddrF fo65_1 rfl) (bv rfl (v_loadF ty47 rfl (l_cell eStateParts h12 (o:=1) rfl rfl)) (bv rfl (v_lenF rfl rfl ty47 rfl) (bv rfl (v_bin rfl rfl b_lss) ?_))));refine bf hK (P1 [(3,hI a1),(4,hI a7),(25,.bool (decide (a7<((x11.2).length:Int))))] []) ?_;refine AW.cond rfl (fun hc=>?_) (fun hc=>?_)
  ·obtain ⟨hc,h⟩:=cT hc h
   refine AW.skip ?_;refine AW.seq (AW.block ?_);refine AW.rgs rfl fun K hK=>mv rfl rfl (mv rfl rfl ?_);obtain ⟨x13,h14,h⟩:=bS h;refine bv rfl (v_idxF ty39 es39 rfl rfl (idx_lt h14)) (bv rfl (v_fieldAddrF fo65_1 rfl) (bv rfl (v_loadF ty47 rfl (l_cell eStateParts h14 (o:=1) rfl rfl)) (mv rfl rfl ?_)));obtain ⟨x15,h16,h⟩:=bS h;refine bv rfl (v_idxF ty47 es47 rfl rfl (idx_lt h16)) (bv rfl (v_loadF ty25 rfl (l_cell (eSl eInt) h16 (o:=0) rfl rfl)) (bv rfl (v_lenF rfl rfl ty25 rfl) (bv rfl (v_bin rfl rfl b_gtr) ?_)));refine bf hK (P1 [(3,hI a1),(4,hI a7),(37,.bool (decide (16<((x15).length:Int))))] []) ?_;refine AW.cond rfl (fun hc=>?_) (fun hc=>?_)
   ·obtain ⟨hc,h⟩:=cT hc h
    refine AW.rgs rfl fun K hK=>mv rfl rfl ?_;refine bf hK ⟨[(2,.bool true)],[]⟩ ?_;have h:=hr10 _ h;have h:=hr4 _ h;obtain rfl:=oi h;exact AW.ret (ret_pure (.inr rfl) (resT rfl rfl) rfl trivial)
   obtain ⟨hc,h⟩:=cF hc h;refine AW.skip ?_;refine AW.rg rfl fun K hK=>mv rfl rfl (bv rfl (v_bin rfl rfl b_add) (mv rfl rfl ?_));refine b_nil (hK _ ?_);exact to_L ⟨IntKind.wrap .i64 (a7+1),(),h,rfl⟩
  obtain ⟨hc,h⟩:=cF hc h;refine AW.exit ?_;exact to_L ⟨(),(),h,rfl⟩
 obtain ⟨hc,h⟩:=cF hc h;refine AW.exit ?_;exact to_L ⟨(),(),h,rfl⟩
theorem w_ref09_Great {p0:TLabelsStatesEdges} {r:Bool} (h:m_ref09_Great p0=some r):Pure Tryz.prog 12 [gA p0] (· = HV.bool r):=by
 unfold m_ref09_Great at h;refine Pure.of_body Tryz.func12 rfl rfl (lb rfl) fun hf=>?_;unfold Tryz.f12;dsimp only [enumS,Nat.reduceAdd];refine AW.rgs rfl fun K hK=>b_op rfl (o_box rfl rfl rfl ?_);refine mv rfl rfl ?_;refine bf hK ⟨[(1,gF p0)],[]⟩ ?_;refine AW.seqJ h (S:=Bool) (V:=Unit) (fun a v=>⟨[(2,.bool a)],[]⟩) (fun a1 w2 h=>?_) (fun k3 h=>?_)
 ·obtain rfl:=oi h
  exact AW.ret (ret_pure (.inr rfl) (resT rfl rfl) rfl trivial)
 refine AW.rg rfl fun K hK=>bv rfl (v_fieldAddrF fo24_2 rfl) (bv rfl (v_loadF ty22 rfl (l_lit rfl rfl)) (bv rfl (v_lenF rfl rfl ty22 rfl) (bv rfl (v_bin rfl rfl b_gtr) (mv rfl rfl ?_))));by_cases hg5:30<((p0.2.2).length:Int)
 ·have h:=ifT hg5 h
  refine b_F rfl rfl rfl rfl rfl (decide_eq_true hg5) ?_
  iterate 3 refine b_F rfl rfl rfl rfl rfl rfl ?_
  refine b_U rfl rfl rfl rfl rfl ?_;refine b_U rfl rfl rfl rfl rfl ?_;refine b_U rfl rfl rfl rfl rfl ?_;refine b_F rfl rfl rfl rfl rfl rfl ?_;refine bv rfl (v_pickT rfl rfl rfl) (mv rfl rfl ?_);refine b_nil (hK _ ?_);exact to_L ⟨true,(),h,rfl⟩
 have h:=ifF hg5 h;refine b_T rfl rfl rfl rfl (decide_eq_false hg5) (o_val rfl (v_fieldAddrF fo24_1 rfl) ?_);refine b_T rfl rfl rfl rfl rfl (o_val rfl (v_loadF ty3 rfl (l_lit rfl rfl)) ?_);refine b_T rfl rfl rfl rfl rfl (o_val rfl (v_bin rfl rfl b_gtr) ?_);refine b_T rfl rfl rfl rfl rfl (o_val rfl (mv_val rfl rfl).2 ?_);by_cases hg4:10<p0.2.1
 ·have h:=ifT hg4 h
  refine b_T rfl rfl rfl rfl (decide_eq_true hg4) (o_val rfl (v_fieldAddrF fo24_1 rfl) ?_);refine b_T rfl rfl rfl rfl rfl (o_val rfl (v_loadF ty3 rfl (l_lit rfl rfl)) ?_);refine b_T rfl rfl rfl rfl rfl (o_val rfl (v_bin rfl rfl b_leq) ?_);refine b_T rfl rfl rfl rfl rfl (o_val rfl (v_pickT rfl rfl rfl) ?_);refine bv rfl (v_pickF rfl rfl rfl) (mv rfl rfl ?_);refine b_nil (hK _ ?_);exact to_L ⟨decide (p0.2.1≤64),(),h,rfl⟩
 have h:=ifF hg4 h;refine b_F rfl rfl rfl rfl rfl (decide_eq_false hg4) ?_
 iterate 2 refine b_F rfl rfl rfl rfl rfl rfl ?_
 refine b_T rfl rfl rfl rfl rfl (o_val rfl (v_pickF rfl rfl rfl) ?_);refine bv rfl (v_pickF rfl rfl rfl) (mv rfl rfl ?_);refine b_nil (hK _ ?_);exact to_L ⟨false,(),h,rfl⟩
theorem w_ref24_GreatVector {p0:List (Int)} {r:Bool} (h:m_ref24_GreatVector p0=some r):Pure Tryz.prog 13 [slE eInt p0] (· = HV.bool r):=by
 unfold m_ref24_GreatVector at h;refine Pure.of_body Tryz.func13 rfl rfl (lb rfl) fun hf=>?_;unfold Tryz.f13;dsimp only [enumS,Nat.reduceAdd];refine AW.rgs rfl fun K hK=>mv rfl rfl ?_;let P2:ASf:=fun t H=>⟨(0,slE eInt p0)::t,H⟩;refine bf hK (P2 [] []) ?_;refine AW.seq ?_;refine AW.rgs rfl fun K hK=>mv rfl rfl ?_;refine bf hK (P2 [(3,hI 0)] []) ?_;refine AW.lpR h (by first | exact up_then | exact up_to) (S:=Int) (V:=Unit) (fun a v=>(P2 [(3,hI a)] [])) ?_ (X:=Unit) (W:=Unit) (fun a v=>(P2 [] [])) (fun a13 w14 h=>?_) (fun a1 w2 st3 h hr4=> ?_)
 ·exact to_L ⟨(),rfl⟩
 ·refine AW.rgs rfl fun K hK=>mv rfl rfl (bv rfl (v_lenF rfl rfl ty25 rfl) (bv rfl (v_bin rfl rfl b_gtr) (mv rfl rfl ?_)))
  refine bf hK ⟨[(2,.bool (decide (8<((p0).length:Int))))],[]⟩ ?_;obtain rfl:=oi h;exact AW.ret (ret_pure (.inr rfl) (resT rfl rfl) rfl trivial)
 refine AW.seq ?_;refine AW.rgs rfl fun K hK=>mv rfl rfl (mv rfl rfl (bv rfl (v_lenF rfl rfl ty25 rfl) (bv rfl (v_bin rfl rfl b_lss) ?_)));refine bf hK (P2 [(3,hI a1),(7,.bool (decide (a1<((p0).length:Int))))] []) ?_;refine AW.cond rfl (fun hc=>?_) (fun hc=>?_)
 ·obtain ⟨hc,h⟩:=cT hc h
  refine AW.skip ?_;refine AW.seq (AW.block ?_);refine AW.seqJ h (S:=Bool) (V:=Unit) (fun a v=>(P2 [(3,hI a1),(21,.bool a)] [])) (fun a5 w6 h=>?_) (fun k7 h=>?_)
  ·refine AW.cond rfl (fun hc=>?_) (fun hc=>?_)
   ·have h:=ifT hc h
    refine AW.rgs rfl fun K hK=>mv rfl rfl ?_;refine bf hK ⟨[(2,.bool true)],[]⟩ ?_;have h:=hr4 _ h;obtain rfl:=oi h;exact AW.ret (ret_pure (.inr rfl) (resT rfl rfl) rfl trivial)
   have h:=ifF (bF' hc) h;refine AW.skip ?_;refine AW.rg rfl fun K hK=>mv rfl rfl (bv rfl (v_bin rfl rfl b_add) (mv rfl rfl ?_));refine b_nil (hK _ ?_);exact to_L ⟨IntKind.wrap .i64 (a1+1),(),h,rfl⟩
  refine AW.rg rfl fun K hK=>mv rfl rfl (mv rfl rfl ?_);obtain ⟨x8,h9,h⟩:=bS h;refine bv rfl (v_idxF ty25 es25 rfl rfl (idx_lt h9)) (bv rfl (v_loadF ty3 rfl (l_cell eInt h9 (o:=0) rfl rfl)) (bv rfl (v_bin rfl rfl b_gtr) (mv rfl rfl ?_)));by_cases hg12:12<x8
  ·have h:=ifT hg12 h
   refine b_T rfl rfl rfl rfl (decide_eq_true hg12) (o_val rfl (mv_val rfl rfl).2 ?_);refine b_T rfl rfl rfl rfl rfl (o_val rfl (mv_val rfl rfl).2 ?_);obtain ⟨x10,h11,h⟩:=bS h;refine b_T rfl rfl rfl rfl rfl (o_val rfl (v_idxF ty25 es25 rfl rfl (idx_lt h11)) ?_);refine b_T rfl rfl rfl rfl rfl (o_val rfl (v_loadF ty3 rfl (l_cell eInt h11 (o:=0) rfl rfl)) ?_);refine b_T rfl rfl rfl rfl rfl (o_val rfl (v_bin rfl rfl b_leq) ?_);refine bv rfl (v_pickT rfl rfl rfl) ?_;refine b_nil (hK _ ?_);exact to_L ⟨decide (x10≤4096),(),h,rfl⟩
  have h:=ifF hg12 h;refine b_F rfl rfl rfl rfl rfl (decide_eq_false hg12) ?_
  iterate 4 refine b_F rfl rfl rfl rfl rfl rfl ?_
  refine bv rfl (v_pickF rfl rfl rfl) ?_;refine b_nil (hK _ ?_);exact to_L ⟨false,(),h,rfl⟩
 obtain ⟨hc,h⟩:=cF hc h;refine AW.exit ?_;exact to_L ⟨(),(),h,rfl⟩
theorem w_ref24_Great {p0:TGraphWeightsInputsRounds} {r:Bool} (h:m_ref24_Great p0=some r):Pure Tryz.prog 4 [.agg [hI p0.1.1,hI p0.1.2.1,slE eFromLabelTo p0.1.2.2,slE eInt p0.2.1,hI p0.2.2.1,slE (eSl eStateParts) p0.2.2.2]] (· = HV.bool r):=by
 unfold m_ref24_Great at h;refine Pure.of_body Tryz.func4 rfl rfl (lb rfl) fun hf=>?_;unfold Tryz.f4;dsimp only [enumS,Nat.reduceAdd];refine AW.rgs rfl fun K hK=>b_op rfl (o_box rfl rfl rfl ?_);refine mv rfl rfl ?_;let E1:Nat × HV:=(1,.fptr [hI p0.1.1,hI p0.1.2.1,slE eFromLabelTo p0.1.2.2,slE eInt p0.2.1,hI p0.2.2.1,slE (eSl eStateParts) p0.2.2.2] 0);refine bf hK ⟨[E1],[]⟩ ?_;refine AW.seq ?_;refine AW.rgs rfl fun K hK=>mv rfl rfl ?_;refine bf hK ⟨[E1,(3,hI 0)],[]⟩ ?_;refine AW.lpR h (by first | exact up_then | exact up_to) (S:=Int) (V:=Unit) (fun a v=>⟨[E1,(3,hI a)],[]⟩) ?_ (X:=Unit) (W:=Unit) (fun a v=>⟨[E1],[]⟩) (fun a9 w10 h=>?_) (fun a1 w2 st3 h hr4=> ?_)
 ·exact to_L ⟨(),rfl⟩
 ·refine AW.seqJ h (S:=Bool) (V:=Unit) (fun a v=>⟨[(2,.bool a)],[]⟩) (fun a11 w12 h=>?_) (fun k13 h=>?_)
  ·obtain rfl:=oi h
   exact AW.ret (ret_pure (.inr rfl) (resT rfl rfl) rfl trivial)
  refine AW.rg rfl fun K hK=>bv rfl (v_fieldAddrF fo28_0 rfl) (bv rfl (v_loadF ty24 rfl (l_litA rfl (lb rfl) rfl)) ?_);obtain ⟨x14,h15,h⟩:=bS h;refine b_op rfl (o_call rfl rfl rfl rfl (ACallD.pure0 (w_ref09_Great h15)) ?_);refine mv rfl rfl ?_;by_cases hg21:x14=true
  ·have h:=ifT hg21 h
   refine b_F rfl rfl rfl rfl rfl hg21 ?_
   iterate 2 refine b_F rfl rfl rfl rfl rfl rfl ?_
   refine bv rfl (v_pickT rfl rfl rfl) (mv rfl rfl ?_)
   iterate 5 refine b_F rfl rfl rfl rfl rfl rfl ?_
   refine b_U rfl rfl rfl rfl rfl ?_;refine b_U rfl rfl rfl rfl rfl ?_;refine b_U rfl rfl rfl rfl rfl ?_;refine b_U rfl rfl rfl rfl rfl ?_;refine b_F rfl rfl rfl rfl rfl rfl ?_;refine bv rfl (v_pickT rfl rfl rfl) (mv rfl rfl ?_)
   iterate 4 refine b_F rfl rfl rfl rfl rfl rfl ?_
   refine bv rfl (v_pickT rfl rfl rfl) (mv rfl rfl ?_);refine b_nil (hK _ ?_);exact to_L ⟨true,(),h,rfl⟩
  have h:=ifF hg21 h;refine b_T rfl rfl rfl rfl (bF hg21) (o_val rfl (v_fieldAddrF fo28_1 rfl) ?_);refine b_T rfl rfl rfl rfl rfl (o_val rfl (v_loadF ty25 rfl (l_lit rfl rfl)) ?_);obtain ⟨x16,h17,h⟩:=bS h;refine b_T rfl rfl rfl rfl rfl (o_call rfl rfl rfl rfl (ACallD.pure0 (w_ref24_GreatVector h17)) ?_);refine bv rfl (v_pickF rfl rfl rfl) (mv rfl rfl ?_);by_cases hg20:x16=true
  ·have h:=ifT hg20 h
   refine b_F rfl rfl rfl rfl rfl hg20 ?_
   iterate 4 refine b_F rfl rfl rfl rfl rfl rfl ?_
   refine b_U rfl rfl rfl rfl rfl ?_;refine b_U rfl rfl rfl rfl rfl ?_;refine b_U rfl rfl rfl rfl rfl ?_;refine b_U rfl rfl rfl rfl rfl ?_;refine b_F rfl rfl rfl rfl rfl rfl ?_;refine bv rfl (v_pickT rfl rfl rfl) (mv rfl rfl ?_)
   iterate 4 refine b_F rfl rfl rfl rfl rfl rfl ?_
   refine bv rfl (v_pickT rfl rfl rfl) (mv rfl rfl ?_);refine b_nil (hK _ ?_);exact to_L ⟨true,(),h,rfl⟩
  have h:=ifF hg20 h;refine b_T rfl rfl rfl rfl (bF hg20) (o_val rfl (v_fieldAddrF fo28_3 rfl) ?_);refine b_T rfl rfl rfl rfl rfl (o_val rfl (v_loadF ty26 rfl (l_lit rfl rfl)) ?_);refine b_T rfl rfl rfl rfl rfl (o_val rfl (v_lenF rfl rfl ty26 rfl) ?_);refine b_T rfl rfl rfl rfl rfl (o_val rfl (v_bin rfl rfl b_gtr) ?_);refine b_T rfl rfl rfl rfl rfl (o_val rfl (mv_val rfl rfl).2 ?_);by_cases hg19:12<((p0.2.2.2).length:Int)
  ·have h:=ifT hg19 h
   refine b_T rfl rfl rfl rfl (decide_eq_true hg19) (o_val rfl (v_fieldAddrF fo28_3 rfl) ?_);refine b_T rfl rfl rfl rfl rfl (o_val rfl (v_loadF ty26 rfl (l_lit rfl rfl)) ?_);refine b_T rfl rfl rfl rfl rfl (o_val rfl (v_lenF rfl rfl ty26 rfl) ?_);refine b_T rfl rfl rfl rfl rfl (o_val rfl (v_bin rfl rfl b_leq) ?_);refine b_T rfl rfl rfl rfl rfl (o_val rfl (v_pickT rfl rfl rfl) ?_);refine bv rfl (v_pickF rfl rfl rfl) (mv rfl rfl ?_);by_cases hg18:((p0.2.2.2).length:Int)≤64
   ·have h:=ifT hg18 h
    refine b_F rfl rfl rfl rfl rfl (decide_eq_true hg18) ?_
    iterate 3 refine b_F rfl rfl rfl rfl rfl rfl ?_
    refine bv rfl (v_pickT rfl rfl rfl) (mv rfl rfl ?_);refine b_nil (hK _ ?_);exact to_L ⟨true,(),h,rfl⟩
   have h:=ifF hg18 h;refine b_T rfl rfl rfl rfl (decide_eq_false hg18) (o_val rfl (v_fieldAddrF fo28_3 rfl) ?_);refine b_T rfl rfl rfl rfl rfl (o_val rfl (v_loadF ty26 rfl (l_lit rfl rfl)) ?_);refine b_T rfl rfl rfl rfl rfl (o_val rfl (v_lenF rfl rfl ty26 rfl) ?_);refine b_T rfl rfl rfl rfl rfl (o_val rfl (v_bin rfl rfl b_gtr) ?_);refine bv rfl (v_pickF rfl rfl rfl) (mv rfl rfl ?_);refine b_nil (hK _ ?_);exact to_L ⟨decide (66<((p0.2.2.2).length:Int)),(),h,rfl⟩
  have h:=ifF hg19 h;refine b_F rfl rfl rfl rfl rfl (decide_eq_false hg19) ?_
  iterate 3 refine b_F rfl rfl rfl rfl rfl rfl ?_
  refine b_T rfl rfl rfl rfl rfl (o_val rfl (v_pickF rfl rfl rfl) ?_);refine bv rfl (v_pickF rfl rfl rfl) (mv rfl rfl ?_);refine b_T rfl rfl rfl rfl rfl (o_val rfl (v_fieldAddrF fo28_3 rfl) ?_);refine b_T rfl rfl rfl rfl rfl (o_val rfl (v_loadF ty26 rfl (l_lit rfl rfl)) ?_);refine b_T rfl rfl rfl rfl rfl (o_val rfl (v_lenF rfl rfl ty26 rfl) ?_);refine b_T rfl rfl rfl rfl rfl (o_val rfl (v_bin rfl rfl b_gtr) ?_);refine bv rfl (v_pickF rfl rfl rfl) (mv rfl rfl ?_);refine b_nil (hK _ ?_);exact to_L ⟨decide (66<((p0.2.2.2).length:Int)),(),h,rfl⟩
 refine AW.seq ?_;refine AW.rgs rfl fun K hK=>mv rfl rfl (bv rfl (v_fieldAddrF fo28_3 rfl) (bv rfl (v_loadF ty26 rfl (l_lit rfl rfl)) (bv rfl (v_lenF rfl rfl ty26 rfl) (bv rfl (v_bin rfl rfl b_lss) ?_))));refine bf hK ⟨[E1,(3,hI a1),(8,.bool (decide (a1<((p0.2.2.2).length:Int))))],[]⟩ ?_;refine AW.cond rfl (fun hc=>?_) (fun hc=>?_)
 ·obtain ⟨hc,h⟩:=cT hc h
  refine AW.skip ?_;refine AW.seq (AW.block ?_);refine AW.rgs rfl fun K hK=>bv rfl (v_fieldAddrF fo28_3 rfl) (bv rfl (v_loadF ty26 rfl (l_lit rfl rfl)) (mv rfl rfl ?_));obtain ⟨x5,h6,h⟩:=bS h;refine bv rfl (v_idxF ty26 es26 rfl rfl (idx_lt h6)) (bv rfl (v_loadF ty39 rfl (l_cell (eSl eStateParts) h6 (o:=0) rfl rfl)) ?_);obtain ⟨x7,h8,h⟩:=bS h;refine b_op rfl (o_call rfl rfl rfl rfl (ACallD.pure0 (w_ref24_GreatRound h8)) ?_);refine bf hK ⟨[E1,(3,hI a1),(16,.bool x7)],[]⟩ ?_;refine AW.cond rfl (fun hc=>?_) (fun hc=>?_)
  ·have h:=ifT hc h
   refine AW.rgs rfl fun K hK=>mv rfl rfl ?_;refine bf hK ⟨[(2,.bool true)],[]⟩ ?_;have h:=hr4 _ h;obtain rfl:=oi h;exact AW.ret (ret_pure (.inr rfl) (resT rfl rfl) rfl trivial)
  have h:=ifF (bF' hc) h;refine AW.skip ?_;refine AW.rg rfl fun K hK=>mv rfl rfl (bv rfl (v_bin rfl rfl b_add) (mv rfl rfl ?_));refine b_nil (hK _ ?_);exact to_L ⟨IntKind.wrap .i64 (a1+1),(),h,rfl⟩
 obtain ⟨hc,h⟩:=cF hc h;refine AW.exit ?_;exact to_L ⟨(),(),h,rfl⟩
theorem w_graph_Out {p0:TLabelsStatesEdges} {p1:Int} {r:(List (Int)) × Int} (h:m_graph_Out p0 p1=some r):Pure Tryz.prog 24 [gA p0,hI p1] (· = HV.tup [slE eInt r.1,hI r.2]):=by
 unfold m_graph_Out at h;refine Pure.of_body Tryz.func24 rfl rfl (lb rfl) fun hf=>?_;unfold Tryz.f24;dsimp only [enumS,Nat.reduceAdd];refine AW.rgs rfl fun K hK=>b_op rfl (o_box rfl rfl rfl ?_);refine mv rfl rfl (mv rfl rfl ?_);let P3:ASf:=fun t H=>⟨(1,hI p1)::(2,gF p0)::t,H⟩;refine bf hK (P3 [] []) ?_;refine AW.seq ?_;refine AW.rgs rfl fun K hK=>bv rfl (v_loadF ty24 rfl (l_litA rfl (lb rfl) rfl)) ?_;obtain ⟨x1,h2,h⟩:=bS h;refine b_op rfl (o_call rfl rfl rfl rfl (ACallD.pure0 (w_graph_Check h2)) ?_);refine bv rfl (v_bin rfl rfl b_neq) ?_;refine bf hK (P3 [(10,.bool (decide (x1≠0)))] []) ?_;refine AW.cond rfl (fun hc=>?_) (fun hc=>?_)
 ·obtain ⟨hc,h⟩:=cT hc h
  refine AW.rgs rfl fun K hK=>mv rfl rfl (mv rfl rfl ?_);refine bf hK ⟨[(4,.v (.slice none 0 0)),(5,hI 1)],[]⟩ ?_;refine AW.to (to_weak ⟨[(4,slE eInt ([]:List Int)),(5,hI 1)],[]⟩ ⟨⟨_,rfl,.nil _⟩,⟨_,rfl,.refl _⟩,trivial⟩ trivial ?_);obtain rfl:=oi h;exact AW.ret (ret_pure (.inr rfl) (resT rfl (resT rfl rfl)) rfl ⟨(clean_slE fun _ _=>⟨trivial,trivial⟩),trivial,trivial⟩)
 obtain ⟨hc,h⟩:=cF hc h;refine AW.skip ?_;refine AW.seq ?_;refine AW.seqJ h (S:=Bool) (V:=Unit) (fun a v=>(P3 [(18,.bool a)] [])) (fun a3 w4 h=>?_) (fun k5 h=>?_)
 ·refine AW.cond rfl (fun hc=>?_) (fun hc=>?_)
  ·have h:=ifT hc h
   refine AW.rgs rfl fun K hK=>mv rfl rfl (mv rfl rfl ?_);refine bf hK ⟨[(4,.v (.slice none 0 0)),(5,hI 25)],[]⟩ ?_;refine AW.to (to_weak ⟨[(4,slE eInt ([]:List Int)),(5,hI 25)],[]⟩ ⟨⟨_,rfl,.nil _⟩,⟨_,rfl,.refl _⟩,trivial⟩ trivial ?_);obtain rfl:=oi h;exact AW.ret (ret_pure (.inr rfl) (resT rfl (resT rfl rfl)) rfl ⟨(clean_slE fun _ _=>⟨trivial,trivial⟩),trivial,trivial⟩)
  have h:=ifF (bF' hc) h;refine AW.skip ?_;refine AW.rgs rfl fun K hK=>b_op rfl (o_alloc (fid:=24) (zs:=[.v (.slice none 0 0)]) 24006 rfl rfl ty25 rfl (fun v6=>?_));refine bf hK (P3 [(6,.ptr 24006 v6 0)] [(24006,v6,.arr 1 25 [.v (.slice none 0 0)])]) ?_;refine AW.seq ?_;refine AW.rgs rfl fun K hK=>bv rfl (v_loadF ty24 rfl (l_litA rfl (lb rfl) rfl)) (mv rfl rfl ?_);refine b_op rfl (o_call rfl rfl rfl rfl (ACallD.pure0 (w_graph_leaving p0 p1)) ?_);let P4:ASf:=fun t H=>⟨(6,.ptr 24006 v6 0)::(21,.fn (.func 70) [] [gF p0,.fptr [hI p1] 0])::t,H⟩;refine bf hK (P4 [] [(24006,v6,.arr 1 25 [.v (.slice none 0 0)])]) ?_;refine AW.block ?_;refine AW.to (to_ownC 24027 24006 v6 1 0 eInt.k 3 25 rfl rfl (by decide) fun v7=>?_);refine AW.to (to_le (s':=(P4 [] [(24006,v6,.arr 1 25 [.ar 24027 v7 eInt.k 0 ((([]:List Int)).length)]),(24027,v7,.arr eInt.k 3 (eInt.E ([]:List Int)))])) (AS.le_of ⟨rfl,rfl,trivial⟩ ⟨hle rfl (by first | rfl | simp only [List.length_set,sortI_len,sortS_len,List.length_reverse]),rfl,trivial⟩) ?_);obtain ⟨L8,h9,h⟩:=bS h;refine AW.rangeY (c:=.ret) 24900 (fun x=>[hI x.1,.agg [hI x.2.1,hI x.2.2.1,hI x.2.2.2]]) h (by first | exact up_then | exact up_to) rfl (iy_graph_leaving h9) (S:=(List Int)) (V:=Nat) (fun a v=>[(24006,v6,.arr 1 25 [.ar 24027 v eInt.k 0 ((a).length)]),(24027,v,.arr eInt.k 3 (eInt.E a))]) v7 (X:=Unit) (W:=Unit) (fun _ _=>[]) (fun _ _=>rfl) (fun _ _=>rfl) rfl (fun _=>rfl) (fun a18 w19 h=>?_) (fun a20 w21 h=>?_) (fun Lo l15 v13 a10 x12 w11 st14 h=>?_)
  ·refine AW.rgs rfl fun K hK=>bv rfl (v_loadP ty25 rfl rfl (l_lit rfl rfl)) (mv rfl rfl (mv rfl rfl ?_))
   refine bf hK ⟨[(4,.ar 24027 w19 eInt.k 0 ((a18).length)),(5,hI 0)],[(24027,w19,.arr eInt.k 3 (eInt.E a18))]⟩ ?_;refine AW.to (to_frz 2 [(24027,w19,.arr eInt.k 3 (eInt.E a18))] ⟨[(4,slE eInt a18),(5,hI 0)],[]⟩ ⟨⟨_,rfl,frz_slE eInt (l:=a18) rfl fun _ _=>rfl⟩,⟨_,rfl,rfl⟩,trivial⟩ trivial ⟨rfl,trivial⟩ ⟨rfl,trivial⟩ ?_);obtain rfl:=oi h;exact AW.ret (ret_pure (.inr rfl) (resT rfl (resT rfl rfl)) rfl ⟨(clean_slE fun _ _=>⟨trivial,trivial⟩),trivial,trivial⟩)
  ·cases h
  refine AW.rg rfl fun K hK=>mv rfl rfl ?_;refine b_nil (hK _ ?_);refine ⟨rfl,rfl,?_⟩;refine AW.block ?_;refine AW.rg rfl fun K hK=>bv rfl (v_loadP ty25 rfl rfl (l_lit rfl rfl)) (mv rfl rfl ?_);refine b_op rfl (o_bsl rfl rfl (as_of (cs:=[hI x12.1]) ty25 ty3 rfl rfl rfl rfl rfl) ?_);obtain ⟨h17,h⟩:=ifN h;refine b_op rfl (o_appE eInt (l:=a10) (m:=[x12.1]) rfl rfl ty25 ty25 ty3 rfl rfl rfl rfl rfl h17 (fun v16=>?_));refine b_op rfl (o_store (cs:=[.ar 24027 v16 eInt.k 0 ((a10++[x12.1]).length)]) (zs:=[.ar 24027 v16 eInt.k 0 ((a10++[x12.1]).length)]) rfl rfl rfl ty25 rfl rfl rfl rfl rfl ?_);refine b_nil (hK _ ?_);exact ⟨a10++[x12.1],v16,h,(AS.le_of trivial ⟨rfl,rfl,rfl,trivial⟩)⟩
 refine AW.rg rfl fun K hK=>mv rfl rfl (bv rfl (v_bin rfl rfl b_lss) (mv rfl rfl ?_));by_cases hg22:p1<0
 ·have h:=ifT hg22 h
  refine b_F rfl rfl rfl rfl rfl (decide_eq_true hg22) ?_
  iterate 3 refine b_F rfl rfl rfl rfl rfl rfl ?_
  refine bv rfl (v_pickT rfl rfl rfl) ?_;refine b_nil (hK _ ?_);exact to_L ⟨true,(),h,rfl⟩
 have h:=ifF hg22 h;refine b_T rfl rfl rfl rfl (decide_eq_false hg22) (o_val rfl (mv_val rfl rfl).2 ?_);refine b_T rfl rfl rfl rfl rfl (o_val rfl (v_fieldAddrF fo24_1 rfl) ?_);refine b_T rfl rfl rfl rfl rfl (o_val rfl (v_loadF ty3 rfl (l_lit rfl rfl)) ?_);refine b_T rfl rfl rfl rfl rfl (o_val rfl (v_bin rfl rfl b_geq) ?_);refine bv rfl (v_pickF rfl rfl rfl) ?_;refine b_nil (hK _ ?_);exact to_L ⟨decide (p0.2.1≤p1),(),h,rfl⟩
theorem w_slices_Min_Lint_int {p0:List (Int)} {r:Int} (h:m_slices_Min_Lint_int p0=some r):Pure Tryz.prog 46 [slE eInt p0] (· = hI r):=by
 unfold m_slices_Min_Lint_int at h;refine Pure.of_body Tryz.func46 rfl rfl (lb rfl) fun hf=>?_;unfold Tryz.f46;dsimp only [enumS,Nat.reduceAdd];refine AW.rgs rfl fun K hK=>mv rfl rfl ?_;let P5:ASf:=fun t H=>⟨(0,slE eInt p0)::t,H⟩;refine bf hK (P5 [] []) ?_;refine AW.seq ?_;refine AW.rgs rfl fun K hK=>mv rfl rfl (bv rfl (v_lenF rfl rfl ty25 rfl) (bv rfl (v_bin rfl rfl b_lss) ?_));refine bf hK (P5 [(7,.bool (decide (((p0).length:Int)<1)))] []) ?_;refine AW.cond rfl (fun hc=>?_) (fun hc=>?_)
 ·obtain ⟨hc,h⟩:=cT hc h
  cases h
 obtain ⟨hc,h⟩:=cF hc h;refine AW.skip ?_;refine AW.rgs rfl fun K hK=>mv rfl rfl ?_;obtain ⟨x1,h2,h⟩:=bS h;refine bv rfl (v_idxF ty25 es25 rfl rfl (idx_lt h2)) (bv rfl (v_loadF ty3 rfl (l_cell eInt h2 (o:=0) rfl rfl)) (mv rfl rfl ?_));refine bf hK (P5 [(3,hI x1)] []) ?_;refine AW.seq ?_;refine AW.rgs rfl fun K hK=>mv rfl rfl ?_;refine bf hK (P5 [(3,hI x1),(4,hI 1)] []) ?_;refine AW.lpX h (by first | exact up_then | exact up_to) (S:=Int × Int) (V:=Unit) (fun a v=>(P5 [(3,hI a.1),(4,hI a.2)] [])) ?_ (X:=Int) (W:=Unit) (fun a v=>⟨[(3,hI a)],[]⟩) (fun a9 w10 h=>?_) (fun a3 w4 st5 h=>?_)
 ·exact to_L ⟨(),rfl⟩
 ·refine AW.rgs rfl fun K hK=>mv rfl rfl (mv rfl rfl ?_)
  refine bf hK ⟨[(2,hI a9)],[]⟩ ?_;obtain rfl:=oi h;exact AW.ret (ret_pure (.inr rfl) (resT rfl rfl) rfl trivial)
 refine AW.seq ?_;refine AW.rgs rfl fun K hK=>mv rfl rfl (mv rfl rfl (bv rfl (v_lenF rfl rfl ty25 rfl) (bv rfl (v_bin rfl rfl b_lss) ?_)));refine bf hK (P5 [(3,hI a3.1),(4,hI a3.2),(15,.bool (decide (a3.2<((p0).length:Int))))] []) ?_;refine AW.cond rfl (fun hc=>?_) (fun hc=>?_)
 ·obtain ⟨hc,h⟩:=cT hc h
  refine AW.skip ?_;refine AW.seq (AW.block ?_);refine AW.rg rfl fun K hK=>mv rfl rfl (mv rfl rfl (mv rfl rfl ?_));obtain ⟨x7,h8,h⟩:=bS h;refine bv rfl (v_idxF ty25 es25 rfl rfl (idx_lt h8)) (bv rfl (v_loadF ty3 rfl (l_cell eInt h8 (o:=0) rfl rfl)) (bv rfl (v_min rfl rfl rfl) (mv rfl rfl ?_)));refine bf hK (P5 [(3,hI (min a3.1 x7)),(4,hI a3.2)] []) ?_;refine AW.rg rfl fun K hK=>mv rfl rfl (bv rfl (v_bin rfl rfl b_add) (mv rfl rfl ?_));refine b_nil (hK _ ?_);exact to_L ⟨(min a3.1 x7,IntKind.wrap .i64 (a3.2+1)),(),h,rfl⟩
 obtain ⟨hc,h⟩:=cF hc h;refine AW.exit ?_;exact to_L ⟨a3.1,(),h,rfl⟩
theorem w_splitting_weights {p0:TLabelsStatesEdges} {p1:List (Int)} {p2:Int} {p3:TStateParts} {r:(List (Int)) × Bool} (h:m_splitting_weights p0 p1 p2 p3=some r):Pure Tryz.prog 27 [gA p0,slE eInt p1,hI p2,.agg [hI p3.1,slE (eSl eInt) p3.2]] (· = HV.tup [slE eInt r.1,.bool r.2]):=by
 unfold m_splitting_weights at h;refine Pure.of_body Tryz.func27 rfl rfl (lb rfl) fun hf=>?_;unfold Tryz.f27;dsimp only [enumS,Nat.reduceAdd];refine AW.rgs rfl fun K hK=>b_op rfl (o_box rfl rfl rfl ?_);refine b_op rfl (o_box rfl rfl rfl ?_);refine mv rfl rfl (mv rfl rfl ?_);let E1:Nat × HV:=(7,.fptr [hI p3.1,slE (eSl eInt) p3.2] 0);let P1:ASf:=fun t H=>⟨(1,slE eInt p1)::(2,hI p2)::(4,gF p0)::E1::t,H⟩;refine bf hK (P1 [] []) ?_;refine AW.rgs rfl fun K hK=>mv rfl rfl (bv rfl (v_fieldAddrF fo65_0 rfl) (bv rfl (v_loadF ty3 rfl (l_lit rfl rfl)) ?_));obtain ⟨x1,h2,h⟩:=bS h;refine bv rfl (v_idxF ty25 es25 rfl rfl (idx_lt h2)) (bv rfl (v_loadF ty3 rfl (l_cell eInt h2 (o:=0) rfl rfl)) (mv rfl rfl (mv rfl rfl ?_)));refine bf hK (P1 [(10,hI x1),(11,hI 0)] []) ?_;refine AW.rgs rfl fun K hK=>mv rfl rfl ?_;refine bf hK (P1 [(10,hI x1),(11,hI 0),(12,.v (.slice none 0 0))] []) ?_;refine AW.seq ?_;refine AW.rgs rfl fun K hK=>bv rfl (v_fieldAddrF fo65_1 rfl) (bv rfl (v_loadF ty47 rfl (l_lit rfl rfl)) (bv rfl (v_lenF rfl rfl ty47 rfl) (mv rfl rfl ?_)));let E2:Nat × HV:=(24,slE (eSl eInt) p3.2);let E3:Nat × HV:=(25,hI ((p3.2).length:Int));refine bf hK (P1 [(10,hI x1),(11,hI 0),(12,.v (.slice none 0 0)),E2,E3,(26,hI 0)] []) ?_;refine AW.lpX h (by first | exact up_then | exact up_to) (S:=Int × Int × Int × (List Int)) (V:=Nat) (fun a v=>(P1 [(10,hI a.1),(11,hI a.2.1),(12,.ar 27065 v eInt.k 0 ((a.2.2.2).length)),E2,E3,(26,hI a.2.2.1)] [(27065,v,.arr eInt.k 3 (eInt.E a.2.2.2))])) ?_ (X:=(List Int) × Int) (W:=Nat) (fun a v=>⟨[(2,hI p2),(11,hI a.2),(12,.ar 27065 v eInt.k 0 ((a.1).length))],[(27065,v,.arr eInt.k 3 (eInt.E a.1))]⟩) (fun a28 w29 h=>?_) (fun a3 w4 st5 h=>?_)
 ·refine to_bind (to_own 27065 12 eInt.k 3 rfl fun v27=>?_)
  exact to_le (s':=(P1 [(10,hI x1),(11,hI 0),(12,.ar 27065 v27 eInt.k 0 ((([]:List Int)).length)),E2,E3,(26,hI 0)] [(27065,v27,.arr eInt.k 3 (eInt.E ([]:List Int)))])) (AS.le_of ⟨rfl,rfl,rfl,rfl,rfl,rfl,arl (by first | rfl | simp only [List.length_set,sortI_len,sortS_len,List.length_reverse]),rfl,rfl,rfl,trivial⟩ ⟨rfl,trivial⟩) ⟨v27,rfl⟩
 ·refine AW.seqJ h (S:=Bool) (V:=Unit) (fun a v=>⟨[(8,.ar 27065 w29 eInt.k 0 ((a28.1).length)),(9,.bool a)],[(27065,w29,.arr eInt.k 3 (eInt.E a28.1))]⟩) (fun a30 w31 h=>?_) (fun k32 h=>?_)
  ·refine AW.to (to_frz 2 [(27065,w29,.arr eInt.k 3 (eInt.E a28.1))] ⟨[(8,slE eInt a28.1),(9,.bool a30)],[]⟩ ⟨⟨_,rfl,frz_slE eInt (l:=a28.1) rfl fun _ _=>rfl⟩,⟨_,rfl,rfl⟩,trivial⟩ trivial ⟨rfl,trivial⟩ ⟨rfl,trivial⟩ ?_)
   obtain rfl:=oi h;exact AW.ret (ret_pure (.inr rfl) (resT rfl (resT rfl rfl)) rfl ⟨(clean_slE fun _ _=>⟨trivial,trivial⟩),trivial,trivial⟩)
  refine AW.dg 18 follows rfl rfl fun K hK=>?_
  iterate 2 refine sm rfl rfl ?_
  obtain ⟨x33,h34,h⟩:=bS h;refine s_op rfl rfl (ops_call rfl rfl rfl rfl (((w_slices_Min_Lint_int h34).fresh (by simp only [clean,cleanL,and_self]) rfl).callD 2 (mc (frz_slE eInt (l:=a28.1) rfl fun _ _=>rfl) rfl)) ?_);refine sv rfl (v_bin rfl rfl b_geq) ?_;refine sm rfl rfl ?_;by_cases hg39:1≤x33
  ·have h:=ifT hg39 h
   refine s_T rfl rfl rfl rfl rfl (decide_eq_true hg39) (ops_val rfl (mv_val rfl rfl).2 ?_)
   iterate 3 refine s_T rfl rfl rfl rfl rfl rfl (ops_val rfl (mv_val rfl rfl).2 ?_)
   refine s_T rfl rfl rfl rfl rfl rfl (ops_val rfl (v_lenA rfl rfl ty25 rfl rfl) ?_);refine s_T rfl rfl rfl rfl rfl rfl (ops_val rfl (v_bin rfl rfl b_sub) ?_);obtain ⟨x35,h36,h⟩:=bS h;refine s_T rfl rfl rfl rfl rfl rfl (ops_val rfl (v_idxA ty25 es25 rfl rfl (idx_lt h36) rfl) ?_);obtain ⟨x37,h38,h⟩:=bS h;refine s_T rfl rfl rfl rfl rfl rfl (ops_val rfl (v_loadP ty3 rfl rfl (l_cell eInt h38 (o:=0) rfl rfl)) ?_);refine s_T rfl rfl rfl rfl rfl rfl (ops_val rfl (v_bin rfl rfl b_mul) ?_);refine s_T rfl rfl rfl rfl rfl rfl (ops_val rfl (v_bin rfl rfl b_geq) ?_);refine sv rfl (v_pickT rfl rfl rfl) ?_
   iterate 2 refine sm rfl rfl ?_
   refine s_nil ?_;refine b_nil (hK _ ?_);exact to_L ⟨decide ((IntKind.wrap .i64 (p2*x37))≤a28.2),(),h,rfl⟩
  have h:=ifF hg39 h;refine s_F rfl rfl rfl rfl rfl (decide_eq_false hg39) ?_
  iterate 9 refine s_F rfl rfl rfl rfl rfl rfl ?_
  refine sv rfl (v_pickF rfl rfl rfl) ?_
  iterate 2 refine sm rfl rfl ?_
  refine s_nil ?_;refine b_nil (hK _ ?_);exact to_L ⟨false,(),h,rfl⟩
 refine AW.rgs rfl fun K hK=>bv rfl (v_bin rfl rfl b_lss) ?_;let E4:Nat × HV:=(12,.ar 27065 w4 eInt.k 0 ((a3.2.2.2).length));let O5:Nat × Nat × AObj:=(27065,w4,.arr eInt.k 3 (eInt.E a3.2.2.2));refine bf hK (P1 [(10,hI a3.1),(11,hI a3.2.1),E4,E2,E3,(26,hI a3.2.2.1),(27,.bool (decide (a3.2.2.1<((p3.2).length:Int))))] [O5]) ?_;refine AW.cseq rfl (fun hc=>?_) (fun hc=>?_)
 ·obtain ⟨hc,h⟩:=cT hc h
  refine AW.skip ?_;refine AW.seq (AW.block ?_);refine AW.rgs rfl fun K hK=>mv rfl rfl ?_;obtain ⟨x7,h8,h⟩:=bS h;refine bv rfl (v_idxF ty47 es47 rfl rfl (idx_lt h8)) (bv rfl (v_loadF ty25 rfl (l_cell (eSl eInt) h8 (o:=0) rfl rfl)) (mv rfl rfl (mv rfl rfl ?_)));refine bf hK (P1 [(10,hI a3.1),E4,(13,hI a3.2.2.1),(14,slE eInt x7),E2,E3,(26,hI a3.2.2.1)] [O5]) ?_;refine AW.rgs rfl fun K hK=>mv rfl rfl ?_;refine bf hK (P1 [(10,hI a3.1),(11,hI 0),E4,(13,hI a3.2.2.1),(14,slE eInt x7),E2,E3,(26,hI a3.2.2.1)] [O5]) ?_;refine AW.seq ?_;refine AW.rgs rfl fun K hK=>mv rfl rfl (bv rfl (v_lenF rfl rfl ty25 rfl) (mv rfl rfl ?_));let E6:Nat × HV:=(32,hI ((x7).length:Int));refine bf hK (P1 [(10,hI a3.1),(11,hI 0),E4,(13,hI a3.2.2.1),E2,E3,(26,hI a3.2.2.1),(31,slE eInt x7),E6,(33,hI 0)] [O5]) ?_;refine AW.lpX h (by first | exact up_then | exact up_to) (S:=Int × Int) (V:=Unit) (fun a v=>(P1 [(10,hI a3.1),(11,hI a.1),E4,(13,hI a3.2.2.1),E2,E3,(26,hI a3.2.2.1),(31,slE eInt x7),E6,(33,hI a.2)] [O5])) ?_ (X:=Int) (W:=Unit) (fun a v=>(P1 [(10,hI a3.1),(11,hI a),E4,(13,hI a3.2.2.1),E2,E3,(26,hI a3.2.2.1)] [O5])) (fun a19 w20 h=>?_) (fun a9 w10 st11 h=>?_)
  ·exact to_L ⟨(),rfl⟩
  ·refine AW.rgs rfl fun K hK=>mv rfl rfl (mv rfl rfl ?_)
   obtain ⟨h21,h⟩:=ifN h;refine bv rfl (v_bin rfl rfl (b_quo h21)) (mv rfl rfl ?_);refine bf hK (P1 [(10,hI a3.1),(11,hI a19),E4,(13,hI a3.2.2.1),(17,hI (IntKind.wrap .i64 (Int.tdiv a19 p2))),E2,E3,(26,hI a3.2.2.1)] [O5]) ?_;refine AW.seq ?_;refine AW.rgs rfl fun K hK=>mv rfl rfl (bv rfl (v_fieldAddrF fo65_1 rfl) (bv rfl (v_loadF ty47 rfl (l_lit rfl rfl)) (bv rfl (v_lenF rfl rfl ty47 rfl) (bv rfl (v_bin rfl rfl b_sub) (bv rfl (v_bin rfl rfl b_eql) ?_)))));refine bf hK (P1 [(10,hI a3.1),(11,hI a19),E4,(17,hI (IntKind.wrap .i64 (Int.tdiv a19 p2))),E2,E3,(26,hI a3.2.2.1),(57,.bool (decide (a3.2.2.1=(IntKind.wrap .i64 (((p3.2).length:Int) - 1)))))] [O5]) ?_;refine AW.lastJ h (by first | exact up_then | exact up_to) (S:=Int) (V:=Unit) (fun a v=>(P1 [(10,hI a3.1),(11,hI a19),E4,(17,hI a),E2,E3,(26,hI a3.2.2.1)] [O5])) (fun a22 w23 h=>?_) (fun k24 h=>?_)
   ·refine AW.rgs rfl fun K hK=>mv rfl rfl (mv rfl rfl (bv rfl (v_bin rfl rfl b_sub) (mv rfl rfl ?_)))
    refine bf hK (P1 [(10,hI (IntKind.wrap .i64 (a3.1 - a22))),(11,hI a19),E4,(17,hI a22),E2,E3,(26,hI a3.2.2.1)] [O5]) ?_;refine AW.rg rfl fun K hK=>mv rfl rfl (mv rfl rfl ?_);refine b_op rfl (o_bsl rfl rfl (as_of (cs:=[hI a22]) ty25 ty3 rfl rfl rfl rfl rfl) ?_);obtain ⟨h26,h⟩:=ifN h;refine b_op rfl (o_appE eInt (l:=a3.2.2.2) (m:=[a22]) rfl rfl ty25 ty25 ty3 rfl rfl rfl rfl rfl h26 (fun v25=>?_));refine mv rfl rfl ?_;refine bf hK (P1 [(10,hI (IntKind.wrap .i64 (a3.1 - a22))),(11,hI a19),(12,.ar 27065 v25 eInt.k 0 ((a3.2.2.2++[a22]).length)),E2,E3,(26,hI a3.2.2.1)] [(27065,v25,.arr eInt.k 3 (eInt.E (a3.2.2.2++[a22])))]) ?_;refine AW.rg rfl fun K hK=>bv rfl (v_bin rfl rfl b_add) (mv rfl rfl ?_);refine b_nil (hK _ ?_);exact to_L ⟨(IntKind.wrap .i64 (a3.1 - a22),a19,IntKind.wrap .i64 (a3.2.2.1+1),a3.2.2.2++[a22]),v25,h,rfl⟩
   refine AW.cond rfl (fun hc=>?_) (fun hc=>?_)
   ·obtain ⟨hc,h⟩:=cT hc h
    refine AW.rg rfl fun K hK=>mv rfl rfl (mv rfl rfl ?_);refine b_nil (hK _ ?_);exact to_L ⟨a3.1,(),h,rfl⟩
   obtain ⟨hc,h⟩:=cF hc h;refine AW.skip ?_;exact to_L ⟨IntKind.wrap .i64 (Int.tdiv a19 p2),(),h,rfl⟩
  refine AW.rgs rfl fun K hK=>bv rfl (v_bin rfl rfl b_lss) ?_;refine bf hK (P1 [(10,hI a3.1),(11,hI a9.1),E4,(13,hI a3.2.2.1),E2,E3,(26,hI a3.2.2.1),(31,slE eInt x7),E6,(33,hI a9.2),(34,.bool (decide (a9.2<((x7).length:Int))))] [O5]) ?_;refine AW.cseq rfl (fun hc=>?_) (fun hc=>?_)
  ·obtain ⟨hc,h⟩:=cT hc h
   refine AW.skip ?_;refine AW.seq (AW.block ?_);refine AW.rgs rfl fun K hK=>?_;obtain ⟨x13,h14,h⟩:=bS h;refine bv rfl (v_idxF ty25 es25 rfl rfl (idx_lt h14)) (bv rfl (v_loadF ty3 rfl (l_cell eInt h14 (o:=0) rfl rfl)) (mv rfl rfl ?_));refine bf hK (P1 [(10,hI a3.1),(11,hI a9.1),E4,(13,hI a3.2.2.1),(16,hI x13),E2,E3,(26,hI a3.2.2.1),(31,slE eInt x7),E6,(33,hI a9.2)] [O5]) ?_;refine AW.rg rfl fun K hK=>mv rfl rfl (mv rfl rfl (bv rfl (v_fieldAddrF fo24_2 rfl) (bv rfl (v_loadF ty22 rfl (l_lit rfl rfl)) (mv rfl rfl ?_))));obtain ⟨x15,h16,h⟩:=bS h;refine bv rfl (v_idxF ty22 es22 rfl rfl (idx_lt h16)) (bv rfl (v_fieldAddrF fo55_2 rfl) (bv rfl (v_loadF ty3 rfl (l_cell eFromLabelTo h16 (o:=2) rfl rfl)) ?_));obtain ⟨x17,h18,h⟩:=bS h;refine bv rfl (v_idxF ty25 es25 rfl rfl (idx_lt h18)) (bv rfl (v_loadF ty3 rfl (l_cell eInt h18 (o:=0) rfl rfl)) (bv rfl (v_bin rfl rfl b_add) (mv rfl rfl ?_)));refine bf hK (P1 [(10,hI a3.1),(11,hI (IntKind.wrap .i64 (a9.1+x17))),E4,(13,hI a3.2.2.1),E2,E3,(26,hI a3.2.2.1),(31,slE eInt x7),E6,(33,hI a9.2)] [O5]) ?_;refine AW.rg rfl fun K hK=>bv rfl (v_bin rfl rfl b_add) (mv rfl rfl ?_);refine b_nil (hK _ ?_);exact to_L ⟨(IntKind.wrap .i64 (a9.1+x17),IntKind.wrap .i64 (a9.2+1)),(),h,rfl⟩
  obtain ⟨hc,h⟩:=cF hc h;refine AW.exit ?_;exact to_L ⟨a9.1,(),h,rfl⟩
 obtain ⟨hc,h⟩:=cF hc h;refine AW.exit ?_;exact to_L ⟨(a3.2.2.2,a3.2.1),w4,h,rfl⟩
theorem w_slices_IndexFunc_Lint_int {p0:List (Int)} {p1:Int→Option (Bool)} {g1:FuncId} {z1:List HV} {r:Int} (h:m_slices_IndexFunc_Lint_int p0 p1=some r) (hf1:∀ a0 b,p1 a0=some b→Pure Tryz.prog g1 ([hI a0]++z1) (· = HV.bool b)):Pure Tryz.prog 75 [slE eInt p0,.fn (.func g1) [] z1] (· = hI r):=by
 unfold m_slices_IndexFunc_Lint_int at h;refine Pure.of_body Tryz.func75 rfl rfl (lb rfl) fun hf=>?_;unfold Tryz.f75;dsimp only [enumS,Nat.reduceAdd];refine AW.rgs rfl fun K hK=>mv rfl rfl ?_;let E7:Nat × HV:=(1,.fn (.func g1) [] z1);let P2:ASf:=fun t H=>⟨(0,slE eInt p0)::E7::t,H⟩;refine bf hK (P2 [] []) ?_;refine AW.seq ?_;refine AW.rgs rfl fun K hK=>mv rfl rfl (bv rfl (v_lenF rfl rfl ty25 rfl) (mv rfl rfl ?_));let E8:Nat × HV:=(7,hI ((p0).length:Int));refine bf hK (P2 [E8,(8,hI 0)] []) ?_;refine AW.lpR h (by first | exact up_then | exact up_to) (S:=Int) (V:=Unit) (fun a v=>(P2 [E8,(8,hI a)] [])) ?_ (X:=Unit) (W:=Unit) (fun a v=>⟨[],[]⟩) (fun a9 w10 h=>?_) (fun a1 w2 st3 h hr4=> ?_)
 ·exact to_L ⟨(),rfl⟩
 ·refine AW.rgs rfl fun K hK=>mv rfl rfl ?_
  refine bf hK ⟨[(4,hI (-1))],[]⟩ ?_;obtain rfl:=oi h;exact AW.ret (ret_pure (.inr rfl) (resT rfl rfl) rfl trivial)
 refine AW.rgs rfl fun K hK=>bv rfl (v_bin rfl rfl b_lss) ?_;refine bf hK (P2 [E8,(8,hI a1),(9,.bool (decide (a1<((p0).length:Int))))] []) ?_;refine AW.cseq rfl (fun hc=>?_) (fun hc=>?_)
 ·obtain ⟨hc,h⟩:=cT hc h
  refine AW.skip ?_;refine AW.seq (AW.block ?_);refine AW.rgs rfl fun K hK=>mv rfl rfl (mv rfl rfl ?_);refine bf hK (P2 [(5,hI a1),E8,(8,hI a1)] []) ?_;refine AW.rgs rfl fun K hK=>mv rfl rfl (mv rfl rfl (mv rfl rfl ?_));obtain ⟨x5,h6,h⟩:=bS h;refine bv rfl (v_idxF ty25 es25 rfl rfl (idx_lt h6)) (bv rfl (v_loadF ty3 rfl (l_cell eInt h6 (o:=0) rfl rfl)) ?_);obtain ⟨x7,h8,h⟩:=bS h;refine b_op rfl (o_call rfl rfl rfl rfl (ACallD.pure0 (hf1 _ _ h8)) ?_);refine bf hK (P2 [(5,hI a1),E8,(8,hI a1),(16,.bool x7)] []) ?_;refine AW.cond rfl (fun hc=>?_) (fun hc=>?_)
  ·have h:=ifT hc h
   refine AW.rgs rfl fun K hK=>mv rfl rfl (mv rfl rfl ?_);refine bf hK ⟨[(4,hI a1)],[]⟩ ?_;have h:=hr4 _ h;obtain rfl:=oi h;exact AW.ret (ret_pure (.inr rfl) (resT rfl rfl) rfl trivial)
  have h:=ifF (bF' hc) h;refine AW.skip ?_;refine AW.rg rfl fun K hK=>bv rfl (v_bin rfl rfl b_add) (mv rfl rfl ?_);refine b_nil (hK _ ?_);exact to_L ⟨IntKind.wrap .i64 (a1+1),(),h,rfl⟩
 obtain ⟨hc,h⟩:=cF hc h;refine AW.exit ?_;exact to_L ⟨(),(),h,rfl⟩
theorem w_slices_ContainsFunc_Lint_int {p0:List (Int)} {p1:Int→Option (Bool)} {g1:FuncId} {z1:List HV} {r:Bool} (h:m_slices_ContainsFunc_Lint_int p0 p1=some r) (hf1:∀ a0 b,p1 a0=some b→Pure Tryz.prog g1 ([hI a0]++z1) (· = HV.bool b)):Pure Tryz.prog 51 [slE eInt p0,.fn (.func g1) [] z1] (· = HV.bool r):=by
 unfold m_slices_ContainsFunc_Lint_int at h;refine Pure.of_body Tryz.func51 rfl rfl (lb rfl) fun hf=>?_;unfold Tryz.f51;dsimp only [enumS,Nat.reduceAdd];refine AW.rgs rfl fun K hK=>mv rfl rfl ?_;refine bf hK ⟨[(0,slE eInt p0),(1,.fn (.func g1) [] z1)],[]⟩ ?_;refine AW.rgs rfl fun K hK=>mv rfl rfl (mv rfl rfl ?_);obtain ⟨x1,h2,h⟩:=bS h;refine b_op rfl (o_call rfl rfl rfl rfl (ACallD.pure0 (w_slices_IndexFunc_Lint_int h2 hf1)) ?_);refine bv rfl (v_bin rfl rfl b_geq) (mv rfl rfl ?_);refine bf hK ⟨[(4,.bool (decide (0≤x1)))],[]⟩ ?_;obtain rfl:=oi h;exact AW.ret (ret_pure (.inr rfl) (resT rfl rfl) rfl trivial)
theorem w_eigenvector_check_1 {p0:Int} {r:Bool} (h:m_eigenvector_check_1 p0=some r):Pure Tryz.prog 52 [hI p0] (· = HV.bool r):=by
 unfold m_eigenvector_check_1 at h;refine Pure.of_body Tryz.func52 rfl rfl (lb rfl) fun hf=>?_;unfold Tryz.f52;dsimp only [enumS,Nat.reduceAdd];refine AW.rgs rfl fun K hK=>mv rfl rfl ?_;refine bf hK ⟨[(0,hI p0)],[]⟩ ?_;refine AW.seqJ h (S:=Bool) (V:=Unit) (fun a v=>⟨[(2,.bool a)],[]⟩) (fun a1 w2 h=>?_) (fun k3 h=>?_)
 ·obtain rfl:=oi h
  exact AW.ret (ret_pure (.inr rfl) (resT rfl rfl) rfl trivial)
 refine AW.rg rfl fun K hK=>mv rfl rfl (bv rfl (v_bin rfl rfl b_lss) (mv rfl rfl ?_));by_cases hg4:p0<0
 ·have h:=ifT hg4 h
  refine b_F rfl rfl rfl rfl rfl (decide_eq_true hg4) ?_;refine b_F rfl rfl rfl rfl rfl rfl ?_;refine bv rfl (v_pickT rfl rfl rfl) (mv rfl rfl ?_);refine b_nil (hK _ ?_);exact to_L ⟨true,(),h,rfl⟩
 have h:=ifF hg4 h;refine b_T rfl rfl rfl rfl (decide_eq_false hg4) (o_val rfl (mv_val rfl rfl).2 ?_);refine b_T rfl rfl rfl rfl rfl (o_val rfl (v_bin rfl rfl b_gtr) ?_);refine bv rfl (v_pickF rfl rfl rfl) (mv rfl rfl ?_);refine b_nil (hK _ ?_);exact to_L ⟨decide (4096<p0),(),h,rfl⟩
theorem w_eigenvector_check {p0:TLabelsStatesEdges} {p1:List (Int)} {p2:Int} {r:Int} (h:m_eigenvector_check p0 p1 p2=some r):Pure Tryz.prog 29 [gA p0,slE eInt p1,hI p2] (· = hI r):=by
 unfold m_eigenvector_check at h;refine Pure.of_body Tryz.func29 rfl rfl (lb rfl) fun hf=>?_;unfold Tryz.f29;dsimp only [enumS,Nat.reduceAdd];refine AW.rgs rfl fun K hK=>b_op rfl (o_box rfl rfl rfl ?_);refine mv rfl rfl ?_;refine bf hK ⟨[(1,slE eInt p1),(2,hI p2),(3,gF p0)],[]⟩ ?_;refine AW.seq (AW.block ?_);refine AW.rgs rfl fun K hK=>bv rfl (v_loadF ty24 rfl (l_litA rfl (lb rfl) rfl)) ?_;obtain ⟨x1,h2,h⟩:=bS h;refine b_op rfl (o_call rfl rfl rfl rfl (ACallD.pure0 (w_graph_Check h2)) ?_);refine bv rfl (v_bin rfl rfl b_neq) (mv rfl rfl ?_);refine bf hK ⟨[(1,slE eInt p1),(2,hI p2),(3,gF p0),(7,.bool (decide (x1≠0)))],[]⟩ ?_;refine AW.cond rfl (fun hc=>?_) (fun hc=>?_)
 ·obtain ⟨hc,h⟩:=cT hc h
  refine AW.rgs rfl fun K hK=>mv rfl rfl ?_;refine bf hK ⟨[(6,hI 1)],[]⟩ ?_;obtain rfl:=oi h;exact AW.ret (ret_pure (.inr rfl) (resT rfl rfl) rfl trivial)
 obtain ⟨hc,h⟩:=cF hc h;refine AW.seqJ h (S:=Bool) (V:=Unit) (fun a v=>⟨[(1,slE eInt p1),(3,gF p0),(11,.bool a)],[]⟩) (fun a3 w4 h=>?_) (fun k5 h=>?_)
 ·refine AW.cond rfl (fun hc=>?_) (fun hc=>?_)
  ·have h:=ifT hc h
   refine AW.rgs rfl fun K hK=>mv rfl rfl ?_;refine bf hK ⟨[(6,hI 2)],[]⟩ ?_;obtain rfl:=oi h;exact AW.ret (ret_pure (.inr rfl) (resT rfl rfl) rfl trivial)
  have h:=ifF (bF' hc) h;refine AW.rgs rfl fun K hK=>mv rfl rfl (bv rfl (v_lenF rfl rfl ty25 rfl) (bv rfl (v_fieldAddrF fo24_1 rfl) (bv rfl (v_loadF ty3 rfl (l_lit rfl rfl)) (bv rfl (v_bin rfl rfl b_neq) (mv rfl rfl ?_)))));refine bf hK ⟨[(1,slE eInt p1),(18,.bool (decide (((p1).length:Int)≠p0.2.1)))],[]⟩ ?_;refine AW.cond rfl (fun hc=>?_) (fun hc=>?_)
  ·obtain ⟨hc,h⟩:=cT hc h
   refine AW.rgs rfl fun K hK=>mv rfl rfl ?_;refine bf hK ⟨[(6,hI 11)],[]⟩ ?_;obtain rfl:=oi h;exact AW.ret (ret_pure (.inr rfl) (resT rfl rfl) rfl trivial)
  obtain ⟨hc,h⟩:=cF hc h;refine AW.rgs rfl fun K hK=>mv rfl rfl ?_;obtain ⟨x6,h7,h⟩:=bS h;refine b_op rfl (o_call rfl rfl rfl rfl (ACallD.pure0 (w_slices_ContainsFunc_Lint_int h7 (fun _ _ h=>w_eigenvector_check_1 h))) ?_);refine mv rfl rfl ?_;refine bf hK ⟨[(24,.bool x6)],[]⟩ ?_;refine AW.cond rfl (fun hc=>?_) (fun hc=>?_)
  ·have h:=ifT hc h
   refine AW.rgs rfl fun K hK=>mv rfl rfl ?_;refine bf hK ⟨[(6,hI 2)],[]⟩ ?_;obtain rfl:=oi h;exact AW.ret (ret_pure (.inr rfl) (resT rfl rfl) rfl trivial)
  have h:=ifF (bF' hc) h;refine AW.skip ?_;refine AW.rgs rfl fun K hK=>mv rfl rfl ?_;refine bf hK ⟨[(6,hI 0)],[]⟩ ?_;obtain rfl:=oi h;exact AW.ret (ret_pure (.inr rfl) (resT rfl rfl) rfl trivial)
 refine AW.rg rfl fun K hK=>mv rfl rfl (bv rfl (v_bin rfl rfl b_lss) (mv rfl rfl ?_));by_cases hg8:p2<1
 ·have h:=ifT hg8 h
  refine b_F rfl rfl rfl rfl rfl (decide_eq_true hg8) ?_;refine b_F rfl rfl rfl rfl rfl rfl ?_;refine bv rfl (v_pickT rfl rfl rfl) (mv rfl rfl ?_);refine b_nil (hK _ ?_);exact to_L ⟨true,(),h,rfl⟩
 have h:=ifF hg8 h;refine b_T rfl rfl rfl rfl (decide_eq_false hg8) (o_val rfl (mv_val rfl rfl).2 ?_);refine b_T rfl rfl rfl rfl rfl (o_val rfl (v_bin rfl rfl b_gtr) ?_);refine bv rfl (v_pickF rfl rfl rfl) (mv rfl rfl ?_);refine b_nil (hK _ ?_);exact to_L ⟨decide (256<p2),(),h,rfl⟩
theorem w_eigenvector_zero_1 {p0:Int} {r:Bool} (h:m_eigenvector_zero_1 p0=some r):Pure Tryz.prog 53 [hI p0] (· = HV.bool r):=by
 unfold m_eigenvector_zero_1 at h;refine Pure.of_body Tryz.func53 rfl rfl (lb rfl) fun hf=>?_;unfold Tryz.f53;dsimp only [enumS,Nat.reduceAdd];refine AW.rgs rfl fun K hK=>mv rfl rfl ?_;refine bf hK ⟨[(0,hI p0)],[]⟩ ?_;refine AW.rgs rfl fun K hK=>mv rfl rfl (bv rfl (v_bin rfl rfl b_neq) (mv rfl rfl ?_));refine bf hK ⟨[(2,.bool (decide (p0≠0)))],[]⟩ ?_;obtain rfl:=oi h;exact AW.ret (ret_pure (.inr rfl) (resT rfl rfl) rfl trivial)
theorem w_eigenvector_zero {p0:List (Int)} {r:Bool} (h:m_eigenvector_zero p0=some r):Pure Tryz.prog 30 [slE eInt p0] (· = HV.bool r):=by
 unfold m_eigenvector_zero at h;refine Pure.of_body Tryz.func30 rfl rfl (lb rfl) fun hf=>?_;unfold Tryz.f30;dsimp only [enumS,Nat.reduceAdd];refine AW.rgs rfl fun K hK=>mv rfl rfl ?_;refine bf hK ⟨[(0,slE eInt p0)],[]⟩ ?_;refine AW.rgs rfl fun K hK=>mv rfl rfl ?_;obtain ⟨x1,h2,h⟩:=bS h;refine b_op rfl (o_call rfl rfl rfl rfl (ACallD.pure0 (w_slices_ContainsFunc_Lint_int h2 (fun _ _ h=>w_eigenvector_zero_1 h))) ?_);refine bv rfl (v_not rfl) (mv rfl rfl ?_);refine bf hK ⟨[(2,.bool (!x1))],[]⟩ ?_;obtain rfl:=oi h;exact AW.ret (ret_pure (.inr rfl) (resT rfl rfl) rfl trivial)
theorem w_eigenvector_plus {p0:Int} {p1:Int} {r:Int} (h:m_eigenvector_plus p0 p1=some r):Pure Tryz.prog 32 [hI p0,hI p1] (· = hI r):=by
 unfold m_eigenvector_plus at h;refine Pure.of_body Tryz.func32 rfl rfl (lb rfl) fun hf=>?_;unfold Tryz.f32;dsimp only [enumS,Nat.reduceAdd];refine AW.rgs rfl fun K hK=>mv rfl rfl ?_;refine bf hK ⟨[(0,hI p0),(1,hI p1)],[]⟩ ?_;refine AW.rgs rfl fun K hK=>mv rfl rfl (mv rfl rfl (bv rfl (v_bin rfl rfl b_add) (mv rfl rfl ?_)));refine bf hK ⟨[(4,hI (IntKind.wrap .i64 (p0+p1)))],[]⟩ ?_;obtain rfl:=oi h;exact AW.ret (ret_pure (.inr rfl) (resT rfl rfl) rfl trivial)
theorem w_eigenvector_sums_int {p0:TLabelsStatesEdges} {p1:List (Int)} {r:(List (Int))} (h:m_eigenvector_sums_int p0 p1=some r):Pure Tryz.prog 31 [gA p0,slE eInt p1,.fn (.func 32) [] []] (· = slE eInt r):=by
 unfold m_eigenvector_sums_int at h;refine Pure.of_body Tryz.func31 rfl rfl (lb rfl) fun hf=>?_;unfold Tryz.f31;dsimp only [enumS,Nat.reduceAdd];refine AW.rgs rfl fun K hK=>b_op rfl (o_box rfl rfl rfl ?_);refine mv rfl rfl ?_;let E10:Nat × HV:=(2,.fn (.func 32) [] []);let P3:ASf:=fun t H=>⟨(1,slE eInt p1)::E10::t,H⟩;refine bf hK (P3 [(3,gF p0)] []) ?_;refine AW.rgs rfl fun K hK=>bv rfl (v_fieldAddrF fo24_1 rfl) (bv rfl (v_loadF ty3 rfl (l_lit rfl rfl)) ?_);obtain ⟨h2,h⟩:=ifN h;refine b_op rfl (o_makeE (fid:=31) eInt (0:Int) 31012 rfl rfl ty25 rfl rfl ty3 rfl rfl h2 (fun v1=>?_));refine mv rfl rfl ?_;let E11:Nat × HV:=(7,.ar 31012 v1 eInt.k 0 ((List.replicate (p0.2.1).toNat (0:Int)).length));let O12:Nat × Nat × AObj:=(31012,v1,.arr eInt.k 3 (eInt.E (List.replicate (p0.2.1).toNat (0:Int))));refine bf hK (P3 [(3,gF p0),E11] [O12]) ?_;refine AW.seq ?_;refine AW.rgs rfl fun K hK=>bv rfl (v_fieldAddrF fo24_2 rfl) (bv rfl (v_loadF ty22 rfl (l_lit rfl rfl)) (bv rfl (v_lenF rfl rfl ty22 rfl) (mv rfl rfl ?_)));let E13:Nat × HV:=(14,slE eFromLabelTo p0.2.2);let E14:Nat × HV:=(15,hI ((p0.2.2).length:Int));refine bf hK (P3 [E11,E13,E14,(16,hI 0)] [O12]) ?_;refine AW.lpX h (by first | exact up_then | exact up_to) (S:=Int × (List Int)) (V:=Unit) (fun a v=>(P3 [(7,.ar 31012 v1 eInt.k 0 ((a.2).length)),E13,E14,(16,hI a.1)] [(31012,v1,.arr eInt.k 3 (eInt.E a.2))])) ?_ (X:=(List Int)) (W:=Unit) (fun a v=>⟨[(7,.ar 31012 v1 eInt.k 0 ((a).length))],[(31012,v1,.arr eInt.k 3 (eInt.E a))]⟩) (fun a20 w21 h=>?_) (fun a3 w4 st5 h=>?_)
 ·exact to_L ⟨(),rfl⟩
 ·refine AW.rgs rfl fun K hK=>mv rfl rfl (mv rfl rfl ?_)
  refine bf hK ⟨[(6,.ar 31012 v1 eInt.k 0 ((a20).length))],[(31012,v1,.arr eInt.k 3 (eInt.E a20))]⟩ ?_;refine AW.to (to_frz 2 [(31012,v1,.arr eInt.k 3 (eInt.E a20))] ⟨[(6,slE eInt a20)],[]⟩ ⟨⟨_,rfl,frz_slE eInt (l:=a20) rfl fun _ _=>rfl⟩,trivial⟩ trivial ⟨rfl,trivial⟩ ⟨rfl,trivial⟩ ?_);obtain rfl:=oi h;exact AW.ret (ret_pure (.inr rfl) (resT rfl rfl) rfl (clean_slE fun _ _=>⟨trivial,trivial⟩))
 refine AW.rgs rfl fun K hK=>bv rfl (v_bin rfl rfl b_lss) ?_;refine bf hK (P3 [(7,.ar 31012 v1 eInt.k 0 ((a3.2).length)),E13,E14,(16,hI a3.1),(17,.bool (decide (a3.1<((p0.2.2).length:Int))))] [(31012,v1,.arr eInt.k 3 (eInt.E a3.2))]) ?_;refine AW.cseq rfl (fun hc=>?_) (fun hc=>?_)
 ·obtain ⟨hc,h⟩:=cT hc h
  refine AW.skip ?_;refine AW.seq (AW.block ?_);refine AW.rgs rfl fun K hK=>?_;obtain ⟨x7,h8,h⟩:=bS h;refine bv rfl (v_idxF ty22 es22 rfl rfl (idx_lt h8)) (bv rfl (v_loadF ty55 rfl (l_agg eFromLabelTo h8 rfl rfl)) ?_);refine b_op rfl (o_alloc (fid:=31) (zs:=[hI 0,hI 0,hI 0]) 31009 rfl rfl ty55 rfl (fun v9=>?_));refine b_op rfl (o_store (cs:=[hI x7.1,hI x7.2.1,hI x7.2.2]) (zs:=[hI x7.1,hI x7.2.1,hI x7.2.2]) rfl rfl rfl ty55 rfl rfl rfl rfl rfl ?_);refine bf hK (P3 [(7,.ar 31012 v1 eInt.k 0 ((a3.2).length)),(9,.ptr 31009 v9 0),E13,E14,(16,hI a3.1)] [(31012,v1,.arr eInt.k 3 (eInt.E a3.2)),(31009,v9,.arr 3 55 [hI x7.1,hI x7.2.1,hI x7.2.2])]) ?_;refine AW.dg 16 follows rfl rfl fun K hK=>?_;refine sm rfl rfl ?_;refine sv rfl (v_fieldAddrP fo55_0 rfl rfl) ?_;refine sv rfl (v_loadP ty3 rfl rfl (l_lit rfl rfl)) ?_
  iterate 2 refine sm rfl rfl ?_
  refine sv rfl (v_fieldAddrP fo55_0 rfl rfl) ?_;refine sv rfl (v_loadP ty3 rfl rfl (l_lit rfl rfl)) ?_;obtain ⟨x10,h11,h⟩:=bS h;refine sv rfl (v_idxA ty25 es25 rfl rfl (idx_lt h11) rfl) ?_;obtain ⟨x12,h13,h⟩:=bS h;refine sv rfl (v_loadP ty3 rfl rfl (l_cell eInt h13 (o:=0) rfl rfl)) ?_;refine sm rfl rfl ?_;refine sv rfl (v_fieldAddrP fo55_2 rfl rfl) ?_;refine sv rfl (v_loadP ty3 rfl rfl (l_lit rfl rfl)) ?_;obtain ⟨x14,h15,h⟩:=bS h;refine sv rfl (v_idxF ty25 es25 rfl rfl (idx_lt h15)) ?_;refine sv rfl (v_loadF ty3 rfl (l_cell eInt h15 (o:=0) rfl rfl)) ?_;obtain ⟨x16,h17,h⟩:=bS h;refine s_op rfl rfl (ops_call rfl rfl rfl rfl (ACallD.pure0 (w_eigenvector_plus h17)) ?_);obtain ⟨x18,h19,h⟩:=bS h;refine sv rfl (v_idxA ty25 es25 rfl rfl (idx_lt h19) rfl) ?_;refine s_nil ?_;refine b_op rfl (o_storeE eInt (l:=a3.2) (j:=x7.1) (v:=x16) rfl rfl rfl ty3 rfl rfl rfl (idx_lt h19) ?_);refine b_fin hK (s':=(P3 [(7,.ar 31012 v1 eInt.k 0 (((a3.2).set (x7.1).toNat x16).length)),E13,E14,(16,hI a3.1)] [(31012,v1,.arr eInt.k 3 (eInt.E ((a3.2).set (x7.1).toNat x16)))])) (AS.le_of ⟨rfl,rfl,arl (by first | rfl | simp only [List.length_set,sortI_len,sortS_len,List.length_reverse]),rfl,rfl,rfl,trivial⟩ ⟨rfl,trivial⟩) ?_;refine AW.rg rfl fun K hK=>bv rfl (v_bin rfl rfl b_add) (mv rfl rfl ?_);refine b_nil (hK _ ?_);exact to_L ⟨(IntKind.wrap .i64 (a3.1+1),(a3.2).set (x7.1).toNat x16),(),h,rfl⟩
 obtain ⟨hc,h⟩:=cF hc h;refine AW.exit ?_;exact to_L ⟨a3.2,(),h,rfl⟩
theorem w_eigenvector_Check {p0:TLabelsStatesEdges} {p1:List (Int)} {p2:Int} {r:Int} (h:m_eigenvector_Check p0 p1 p2=some r):Pure Tryz.prog 10 [gA p0,slE eInt p1,hI p2] (· = hI r):=by
 unfold m_eigenvector_Check at h;refine Pure.of_body Tryz.func10 rfl rfl (lb rfl) fun hf=>?_;unfold Tryz.f10;dsimp only [enumS,Nat.reduceAdd];refine AW.rgs rfl fun K hK=>b_op rfl (o_box rfl rfl rfl ?_);refine mv rfl rfl ?_;let P4:ASf:=fun t H=>⟨(1,slE eInt p1)::(2,hI p2)::t,H⟩;refine bf hK (P4 [(3,gF p0)] []) ?_;refine AW.seq ?_;refine AW.rgs rfl fun K hK=>bv rfl (v_loadF ty24 rfl (l_litA rfl (lb rfl) rfl)) (mv rfl rfl (mv rfl rfl ?_));obtain ⟨x1,h2,h⟩:=bS h;refine b_op rfl (o_call rfl rfl rfl rfl (ACallD.pure0 (w_eigenvector_check h2)) ?_);refine mv rfl rfl ?_;refine bf hK (P4 [(3,gF p0),(7,hI x1)] []) ?_;refine AW.rgs rfl fun K hK=>mv rfl rfl (bv rfl (v_bin rfl rfl b_neq) ?_);refine bf hK (P4 [(3,gF p0),(7,hI x1),(15,.bool (decide (x1≠0)))] []) ?_;refine AW.cond rfl (fun hc=>?_) (fun hc=>?_)
 ·obtain ⟨hc,h⟩:=cT hc h
  refine AW.rgs rfl fun K hK=>mv rfl rfl (mv rfl rfl ?_);refine bf hK ⟨[(6,hI x1)],[]⟩ ?_;obtain rfl:=oi h;exact AW.ret (ret_pure (.inr rfl) (resT rfl rfl) rfl trivial)
 obtain ⟨hc,h⟩:=cF hc h;refine AW.skip ?_;refine AW.seq ?_;refine AW.rgs rfl fun K hK=>mv rfl rfl ?_;obtain ⟨x3,h4,h⟩:=bS h;refine b_op rfl (o_call rfl rfl rfl rfl (ACallD.pure0 (w_eigenvector_zero h4)) ?_);refine bf hK (P4 [(3,gF p0),(18,.bool x3)] []) ?_;refine AW.cond rfl (fun hc=>?_) (fun hc=>?_)
 ·have h:=ifT hc h
  refine AW.rgs rfl fun K hK=>mv rfl rfl ?_;refine bf hK ⟨[(6,hI 5)],[]⟩ ?_;obtain rfl:=oi h;exact AW.ret (ret_pure (.inr rfl) (resT rfl rfl) rfl trivial)
 have h:=ifF (bF' hc) h;refine AW.skip ?_;refine AW.seq ?_;refine AW.rgs rfl fun K hK=>bv rfl (v_loadF ty24 rfl (l_litA rfl (lb rfl) rfl)) (mv rfl rfl ?_);obtain ⟨x5,h6,h⟩:=bS h;refine b_op rfl (o_call rfl rfl rfl rfl (ACallD.pure0 (w_eigenvector_sums_int h6)) ?_);refine bv rfl (v_lenF rfl rfl ty25 rfl) (mv rfl rfl ?_);let E15:Nat × HV:=(22,hI ((x5).length:Int));refine bf hK (P4 [(21,slE eInt x5),E15,(23,hI 0)] []) ?_;refine AW.lpR h (by first | exact up_then | exact up_to) (S:=Int) (V:=Unit) (fun a v=>(P4 [(21,slE eInt x5),E15,(23,hI a)] [])) ?_ (X:=Unit) (W:=Unit) (fun a v=>⟨[],[]⟩) (fun a15 w16 h=>?_) (fun a7 w8 st9 h hr10=> ?_)
 ·exact to_L ⟨(),rfl⟩
 ·refine AW.rgs rfl fun K hK=>mv rfl rfl ?_
  refine bf hK ⟨[(6,hI 0)],[]⟩ ?_;obtain rfl:=oi h;exact AW.ret (ret_pure (.inr rfl) (resT rfl rfl) rfl trivial)
 refine AW.rgs rfl fun K hK=>bv rfl (v_bin rfl rfl b_lss) ?_;refine bf hK (P4 [(21,slE eInt x5),E15,(23,hI a7),(24,.bool (decide (a7<((x5).length:Int))))] []) ?_;refine AW.cseq rfl (fun hc=>?_) (fun hc=>?_)
 ·obtain ⟨hc,h⟩:=cT hc h
  refine AW.skip ?_;refine AW.seq (AW.block ?_);refine AW.rgs rfl fun K hK=>mv rfl rfl ?_;obtain ⟨x11,h12,h⟩:=bS h;refine bv rfl (v_idxF ty25 es25 rfl rfl (idx_lt h12)) (bv rfl (v_loadF ty3 rfl (l_cell eInt h12 (o:=0) rfl rfl)) (mv rfl rfl (mv rfl rfl ?_)));refine bf hK (P4 [(8,hI a7),(9,hI x11),(21,slE eInt x5),E15,(23,hI a7)] []) ?_;refine AW.rgs rfl fun K hK=>mv rfl rfl (mv rfl rfl (mv rfl rfl (mv rfl rfl ?_)));obtain ⟨x13,h14,h⟩:=bS h;refine bv rfl (v_idxF ty25 es25 rfl rfl (idx_lt h14)) (bv rfl (v_loadF ty3 rfl (l_cell eInt h14 (o:=0) rfl rfl)) (bv rfl (v_bin rfl rfl b_mul) (bv rfl (v_bin rfl rfl b_lss) ?_)));refine bf hK (P4 [(21,slE eInt x5),E15,(23,hI a7),(35,.bool (decide (x11<(IntKind.wrap .i64 (p2*x13)))))] []) ?_;refine AW.cond rfl (fun hc=>?_) (fun hc=>?_)
  ·obtain ⟨hc,h⟩:=cT hc h
   refine AW.rgs rfl fun K hK=>mv rfl rfl ?_;refine bf hK ⟨[(6,hI 23)],[]⟩ ?_;have h:=hr10 _ h;obtain rfl:=oi h;exact AW.ret (ret_pure (.inr rfl) (resT rfl rfl) rfl trivial)
  obtain ⟨hc,h⟩:=cF hc h;refine AW.skip ?_;refine AW.rg rfl fun K hK=>bv rfl (v_bin rfl rfl b_add) (mv rfl rfl ?_);refine b_nil (hK _ ?_);exact to_L ⟨IntKind.wrap .i64 (a7+1),(),h,rfl⟩
 obtain ⟨hc,h⟩:=cF hc h;refine AW.exit ?_;exact to_L ⟨(),(),h,rfl⟩
theorem w_slices_Index_Lint_int {p0:List (Int)} {p1:Int} {r:Int} (h:m_slices_Index_Lint_int p0 p1=some r):Pure Tryz.prog 76 [slE eInt p0,hI p1] (· = hI r):=by
 unfold m_slices_Index_Lint_int at h;refine Pure.of_body Tryz.func76 rfl rfl (lb rfl) fun hf=>?_;unfold Tryz.f76;dsimp only [enumS,Nat.reduceAdd];refine AW.rgs rfl fun K hK=>mv rfl rfl ?_;let P5:ASf:=fun t H=>⟨(0,slE eInt p0)::(1,hI p1)::t,H⟩;refine bf hK (P5 [] []) ?_;refine AW.seq ?_;refine AW.rgs rfl fun K hK=>mv rfl rfl (bv rfl (v_lenF rfl rfl ty25 rfl) (mv rfl rfl ?_));let E9:Nat × HV:=(7,hI ((p0).length:Int));refine bf hK (P5 [E9,(8,hI 0)] []) ?_;refine AW.lpR h (by first | exact up_then | exact up_to) (S:=Int) (V:=Unit) (fun a v=>(P5 [E9,(8,hI a)] [])) ?_ (X:=Unit) (W:=Unit) (fun a v=>⟨[],[]⟩) (fun a7 w8 h=>?_) (fun a1 w2 st3 h hr4=> ?_)
 ·exact to_L ⟨(),rfl⟩
 ·refine AW.rgs rfl fun K hK=>mv rfl rfl ?_
  refine bf hK ⟨[(4,hI (-1))],[]⟩ ?_;obtain rfl:=oi h;exact AW.ret (ret_pure (.inr rfl) (resT rfl rfl) rfl trivial)
 refine AW.rgs rfl fun K hK=>bv rfl (v_bin rfl rfl b_lss) ?_;refine bf hK (P5 [E9,(8,hI a1),(9,.bool (decide (a1<((p0).length:Int))))] []) ?_;refine AW.cseq rfl (fun hc=>?_) (fun hc=>?_)
 ·obtain ⟨hc,h⟩:=cT hc h
  refine AW.skip ?_;refine AW.seq (AW.block ?_);refine AW.rgs rfl fun K hK=>mv rfl rfl (mv rfl rfl ?_);refine bf hK (P5 [(5,hI a1),E9,(8,hI a1)] []) ?_;refine AW.rgs rfl fun K hK=>mv rfl rfl (mv rfl rfl (mv rfl rfl ?_));obtain ⟨x5,h6,h⟩:=bS h;refine bv rfl (v_idxF ty25 es25 rfl rfl (idx_lt h6)) (bv rfl (v_loadF ty3 rfl (l_cell eInt h6 (o:=0) rfl rfl)) (bv rfl (v_bin rfl rfl b_eql) ?_));refine bf hK (P5 [(5,hI a1),E9,(8,hI a1),(16,.bool (decide (p1=x5)))] []) ?_;refine AW.cond rfl (fun hc=>?_) (fun hc=>?_)
  ·obtain ⟨hc,h⟩:=cT hc h
   refine AW.rgs rfl fun K hK=>mv rfl rfl (mv rfl rfl ?_);refine bf hK ⟨[(4,hI a1)],[]⟩ ?_;have h:=hr4 _ h;obtain rfl:=oi h;exact AW.ret (ret_pure (.inr rfl) (resT rfl rfl) rfl trivial)
  obtain ⟨hc,h⟩:=cF hc h;refine AW.skip ?_;refine AW.rg rfl fun K hK=>bv rfl (v_bin rfl rfl b_add) (mv rfl rfl ?_);refine b_nil (hK _ ?_);exact to_L ⟨IntKind.wrap .i64 (a1+1),(),h,rfl⟩
 obtain ⟨hc,h⟩:=cF hc h;refine AW.exit ?_;exact to_L ⟨(),(),h,rfl⟩
theorem w_slices_Contains_Lint_int {p0:List (Int)} {p1:Int} {r:Bool} (h:m_slices_Contains_Lint_int p0 p1=some r):Pure Tryz.prog 54 [slE eInt p0,hI p1] (· = HV.bool r):=by
 unfold m_slices_Contains_Lint_int at h;refine Pure.of_body Tryz.func54 rfl rfl (lb rfl) fun hf=>?_;unfold Tryz.f54;dsimp only [enumS,Nat.reduceAdd];refine AW.rgs rfl fun K hK=>mv rfl rfl ?_;refine bf hK ⟨[(0,slE eInt p0),(1,hI p1)],[]⟩ ?_;refine AW.rgs rfl fun K hK=>mv rfl rfl (mv rfl rfl ?_);obtain ⟨x1,h2,h⟩:=bS h;refine b_op rfl (o_call rfl rfl rfl rfl (ACallD.pure0 (w_slices_Index_Lint_int h2)) ?_);refine bv rfl (v_bin rfl rfl b_geq) (mv rfl rfl ?_);refine bf hK ⟨[(4,.bool (decide (0≤x1)))],[]⟩ ?_;obtain rfl:=oi h;exact AW.ret (ret_pure (.inr rfl) (resT rfl rfl) rfl trivial)
end Go.AW
