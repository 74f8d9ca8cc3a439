/- Splitting states keeps all words: the graph behind a round, and behind all rounds of a proof, has the words of the graph before; for every proof the law answers true, and the proof reads as it did. The package-level variables that the row lists start as the program lays them; the card ties that to the text. -/
import Derived.Test.YtgckiadiplcbeaaGreatDoorSp6
import Derived.ChangeMaps5
import Derived.Handy
import Derived.Lay
import Derived.OpenShut
import Derived.ProofKit
import Derived.SevenTiedAt
import Derived.SliceStrings
import Derived.Test.YtgckiadiplcbeaaGreatDoorCards
import Derived.Test.YtgckiadiplcbeaaGreatDoorRows
import Derived.Test.YtgckiadiplcbeaaGreatDoorTie
import Derived.WalkKit
import Derived.WideKeyArgs
namespace Go.AW
open Go
set_option linter.unusedVariables false
set_option linter.unusedSimpArgs false
structure TabOk (t:List (List Int)) (n:Nat):Prop where
 len:t.length≤1000
 row:∀ r∈t,r.length=n
 val:∀ r∈t,∀ x∈r, -1≤x∧x<(t.length:Int)
def nxt (t:List (List Int)) (s:Int) (c:Nat):Int:=if s = -1 then -1 else (t.getD s.toNat []).getD c (-1)
def nx2 (a b:List (List Int)) (p:Int × Int) (c:Nat):Int × Int:=(nxt a p.1 c,nxt b p.2 c)
def rng (l:Nat):List Int:=(List.range (l+1)).map fun (i:Nat)=>(i:Int) - 1
theorem mem_rng {l:Nat} {x:Int}:x∈rng l ↔ -1≤x∧x<(l:Int):=by
 unfold rng;rw [List.mem_map];constructor
 ·rintro ⟨i,hi,rfl⟩
  rw [List.mem_range] at hi;omega
 rintro ⟨h1,h2⟩
 exact ⟨(x+1).toNat,List.mem_range.2 (by omega),by omega⟩
def prs (l m:Nat):List (Int × Int):=(rng l).flatMap fun x=>(rng m).map fun y=>(x,y)
theorem mem_prs {l m:Nat} {p:Int × Int}:p∈prs l m↔(-1≤p.1∧p.1<(l:Int)) ∧ -1≤p.2∧p.2<(m:Int):=by
 unfold prs;rw [List.mem_flatMap];constructor
 ·rintro ⟨x,hx,hp⟩
  obtain ⟨y,hy,rfl⟩:=List.mem_map.1 hp;exact ⟨mem_rng.1 hx,mem_rng.1 hy⟩
 rintro ⟨h1,h2⟩
 exact ⟨p.1,mem_rng.2 h1,List.mem_map.2 ⟨p.2,mem_rng.2 h2,rfl⟩⟩
theorem flat_lenP {α β:Type} {k:Nat} {f:α→List β}:∀ {l:List α},(∀ x∈l,(f x).length=k)→(l.flatMap f).length=l.length*k
 | [],_=>by simp
 | x::l,h=>by
  rw [List.flatMap_cons,List.length_append,h x (by simp),flat_lenP (l:=l) fun y hy=>h y (by simp [hy]),List.length_cons,Nat.succ_mul];omega
theorem prs_len (l m:Nat):(prs l m).length=(l+1)*(m+1):=by
 unfold prs;rw [flat_lenP (k:=m+1) fun x _=>by simp [rng]];simp [rng]
theorem prs_small {l m:Nat} (hl:l≤1000) (hm:m≤1000):(prs l m).length≤1002001:=by
 rw [prs_len];exact Nat.le_trans (Nat.mul_le_mul (show l+1≤1001 by omega) (show m+1≤1001 by omega)) (by omega)
theorem nxt_rng {t:List (List Int)} {n:Nat} (ht:TabOk t n) {s:Int} (hs : -1≤s∧s<(t.length:Int)) {c:Nat} (hc:c<n) : -1≤nxt t s c∧nxt t s c<(t.length:Int):=by
 unfold nxt;by_cases e:s = -1
 ·rw [if_pos e]; omega
 rw [if_neg e]
 have hl:s.toNat<t.length:=by omega
 have hr:t.getD s.toNat []∈t:=getD_mem hl
 have hc':c<(t.getD s.toNat []).length:=by rw [ht.row _ hr]; exact hc
 exact ht.val _ hr _ (getD_mem hc')
theorem next_eq {t:List (List Int)} {n:Nat} (ht:TabOk t n) {s:Int} (hs : -1≤s∧s<(t.length:Int)) {c:Nat} (hc:c<n):m_minimal_table_next t s (c:Int)=some (nxt t s c):=by
 unfold m_minimal_table_next nxt;by_cases e:s = -1
 ·rw [if_pos e,if_pos e]
 rw [if_neg e,if_neg e]
 have hl:s.toNat<t.length:=by omega
 have hr:t.getD s.toNat []∈t:=getD_mem hl
 have hc':c<(t.getD s.toNat []).length:=by rw [ht.row _ hr]; exact hc
 rw [idx_getD (by omega) hl []];simp only [Option.bind_some];rw [idx_getD (by omega) (by simpa using hc') (-1)];simp
def sn (Q:List Fd):List ((Int × Int) × Bool):=(keysF Q).map fun k=>(k,true)
theorem wf_small {p:Int × Int} (h1 : -1≤p.1∧p.1<1001) (h2 : -1≤p.2∧p.2<1001):wfST p=true:=by
 unfold wfST Lit.wf;simp only [IntKind.min,IntKind.max,IntKind.signed,IntKind.bits,Bool.and_eq_true,decide_eq_true_eq];simp;omega
theorem kset_sn {p:Int × Int} {Q:List Fd} (hp:wfST p=true) (hQ:∀ x∈Q,wfST x.1=true) (i c:Int):kset wfST p true (sn Q)=some (sn (Q++[(p,i,c)])):=by
 unfold kset
 rw [if_pos ⟨hp,fun x hx=>by
  obtain ⟨k,hk,rfl⟩:=List.mem_map.1 hx;obtain ⟨y,hy,rfl⟩:=List.mem_map.1 hk
  exact hQ y hy,fun x hx _=>by
  obtain ⟨k,hk,rfl⟩:=List.mem_map.1 hx
  rfl⟩]
 simp [sn,keysF]
theorem kget_sn {p:Int × Int} {Q:List Fd} (hp:wfST p=true) (hQ:∀ x∈Q,wfST x.1=true):kget wfST p false (sn Q)=some (decide (p∈keysF Q)):=by
 unfold kget
 rw [if_pos ⟨hp,fun x hx=>by
  obtain ⟨k,hk,rfl⟩:=List.mem_map.1 hx;obtain ⟨y,hy,rfl⟩:=List.mem_map.1 hk
  exact hQ y hy⟩]
 by_cases h:p∈keysF Q
 ·have hm:(p,true)∈(sn Q).filter fun x=>decide (x.1=p):=List.mem_filter.2 ⟨List.mem_map.2 ⟨p,h,rfl⟩,by simp⟩
  cases hf:(sn Q).filter fun x=>decide (x.1=p) with
  | nil=>rw [hf] at hm; cases hm
  | cons y l =>
   have hall:∀ x∈y::l,x.2=true:=fun x hx=>by
    rw [← hf] at hx;obtain ⟨k,_,rfl⟩:=List.mem_map.1 (List.mem_filter.1 hx).1;rfl
   have e:=hall y (by simp);simp only;rw [if_pos (fun x hx=>by rw [hall x (by simp [hx]),e]),e,decide_eq_true h]
 have hf:(sn Q).filter (fun x=>decide (x.1=p))=[]:=by
  rw [List.filter_eq_nil_iff];intro x hx;obtain ⟨k,hk,rfl⟩:=List.mem_map.1 hx;simp only [decide_eq_true_eq]
  rintro rfl
  exact h hk
 rw [hf];simp only;rw [decide_eq_false h]
section
variable {nx:Int × Int→Nat→Int × Int} {start:Int × Int} {n:Nat} {S:List (Int × Int)}
theorem FInv.wlen {i m:Nat} {Q:List Fd} {W:List (List Int)} (h:FInv nx start n S i m Q W):∀ (j:Nat) (w:List Int),W[j]?=some w→w.length≤j:=by
 intro j
 induction j using Nat.strongRecOn with
 | _ j ih =>
  intro w hw;by_cases h0:j=0
  ·subst h0
   rw [h.hw] at hw;cases hw;exact Nat.le_refl _
  obtain ⟨x,hx⟩:=get_len h.len.symm hw;obtain ⟨b,u,h1,h2,h3,h4⟩:=h.link j x w hx hw h0;have:=ih b h1 u h2;rw [h4,List.length_append,List.length_singleton];omega
theorem chain_loop {i m:Nat} {Q:List Fd} {W:List (List Int)} (h:FInv nx start n S i m Q W) {body:Int × List Int→Option (Stp (Int × List Int) (List Int))}
  (hb:∀ (k:Nat) (x:Fd) (acc:List Int),Q[k]?=some x→acc.length≤2000000→body ((k:Int),acc)=if x.2.1 ≠ -1 then some (.next (x.2.1,acc++[x.2.2])) else some (.exit acc)) :
  ∀ (k:Nat) (w acc:List Int),W[k]?=some w→acc.length+w.length≤2000000→loopW body ((k:Int),acc)=some (acc++w.reverse):=by
 intro k
 induction k using Nat.strongRecOn with
 | _ k ih =>
  intro w acc hw hl;by_cases h0:k=0
  ·subst h0
   have hh:=hb 0 _ acc h.hd (by omega);rw [if_neg (by simp)] at hh;rw [h.hw] at hw;cases hw;rw [loopW_exit hh];simp
  obtain ⟨x,hx⟩:=get_len h.len.symm hw;obtain ⟨b,u,h1,h2,h3,h4⟩:=h.link k x w hx hw h0;have hh:=hb k x acc hx (by omega);rw [if_pos (by omega)] at hh;rw [loopW_next hh,h3,ih b h1 u (acc++[x.2.2]) h2 (by rw [h4] at hl; simp at hl ⊢; omega),h4];simp
theorem row_loop {i:Nat} {k:Int × Int} {Q:List Fd} {body:Int × List Fd × List ((Int × Int) × Bool)→Option (Stp (Int × List Fd × List ((Int × Int) × Bool)) (List Fd × List ((Int × Int) × Bool)))}
  (hb:∀ m,m<n→body ((m:Int),frow nx i k m Q,sn (frow nx i k m Q))=some (.next (((m+1:Nat):Int),fstep nx i k (frow nx i k m Q) m,sn (fstep nx i k (frow nx i k m Q) m))))
  (he:∀ Q',body ((n:Int),Q',sn Q')=some (.exit (Q',sn Q'))):loopW body (0,Q,sn Q)=some (frow nx i k n Q,sn (frow nx i k n Q)) :=
 loop_is (fun m=>((m:Int),frow nx i k m Q,sn (frow nx i k m Q))) n _ (fun m hm=>by rw [hb m hm,frow_succ]) (he _) rfl
theorem outer_loop {body:Int × List Fd × List ((Int × Int) × Bool)→Option (Stp (Int × List Fd × List ((Int × Int) × Bool)) (Ou Unit (List Int × Bool)))} {is:Int × Int→Bool} (hdead:∀ c,nx deadP c=deadP) (his:is deadP=false) (hS:∀ k∈S,∀ c,c<n→nx k c=deadP∨nx k c∈S)
  (hb:∀ (i:Nat) (Q:List Fd) (W:List (List Int)) (x:Fd) (w:List Int),FInv nx start n S i 0 Q W→Q[i]?=some x→W[i]?=some w→body ((i:Int),Q,sn Q)=some (if is x.1=true then .exit (.ret (w,true)) else .next (((i+1:Nat):Int),frow nx i x.1 n Q,sn (frow nx i x.1 n Q))))
  (he:∀ (i:Nat) (Q:List Fd),Q.length≤i→body ((i:Int),Q,sn Q)=some (.exit (.go ()))) :
  ∀ (f i:Nat) (Q:List Fd) (W:List (List Int)),FInv nx start n S i 0 Q W→(∀ (j:Nat) (x:Fd),j<i→Q[j]?=some x→is x.1=false)→i≤Q.length→S.length<i+f →
   ∃ y,loopW body ((i:Int),Q,sn Q)=some y∧((∃ w,y=.ret (w,true)∧Ans nx start n is (w,true)∧w.length≤S.length)∨(y=.go ()∧Ans nx start n is ([],false)))
 | 0,i,Q,W,h,_,hi,hf=>by
  have:=h.bound;omega
 | f + 1,i,Q,W,h,hno,hi,hf=>by
  by_cases hl:i<Q.length
  ·obtain ⟨x,hx⟩:∃ x,Q[i]?=some x:=⟨_,List.getElem?_eq_getElem hl⟩
   obtain ⟨w,hw⟩:=get_len h.len hx;have hh:=hb i Q W x w h hx hw;by_cases ht:is x.1=true
   ·rw [if_pos ht] at hh
    exact ⟨_,loopW_exit hh,.inl ⟨w,rfl,h.found hdead his hno hx hw ht,by have:=h.wlen i w hw; have:=h.bound; omega⟩⟩
   rw [if_neg ht] at hh;obtain ⟨W',h'⟩:=h.row hx hS n (Nat.le_refl _)
   have hpre:∀ (j:Nat) (y:Fd),j<i+1→(frow nx i x.1 n Q)[j]?=some y→is y.1=false:=fun j y hj hy=>by
    obtain ⟨z,hz⟩:∃ z,Q[j]?=some z:=⟨_,List.getElem?_eq_getElem (by omega)⟩;rw [frow_at hz] at hy;have hy:=Option.some.inj hy;subst hy;by_cases e:j=i
    ·subst e
     rw [hx] at hz;cases hz
     simpa using ht
    exact hno j z (by omega) hz
   have hlen:i+1≤(frow nx i x.1 n Q).length:=(List.getElem?_eq_some_iff.1 (frow_at hx n)).1;obtain ⟨y,hy,hc⟩:=outer_loop hdead his hS hb he f (i+1) _ W' (h'.next hlen) hpre hlen (by omega);exact ⟨y,by rw [loopW_next hh]; exact hy,hc⟩
  exact ⟨_,loopW_exit (he i Q (by omega)),.inr ⟨rfl,h.none hdead his hno (by omega)⟩⟩
end
theorem fstep_dead {nx:Int × Int→Nat→Int × Int} {i c:Nat} {k:Int × Int} {Q:List Fd} (h:nx k c=deadP):fstep nx i k Q c=Q:=if_neg fun hh=>hh.1 h
theorem fstep_old {nx:Int × Int→Nat→Int × Int} {i c:Nat} {k:Int × Int} {Q:List Fd} (h:nx k c∈keysF Q):fstep nx i k Q c=Q:=if_neg fun hh=>hh.2 h
theorem fstep_new {nx:Int × Int→Nat→Int × Int} {i c:Nat} {k:Int × Int} {Q:List Fd} (h:nx k c≠deadP) (h2:nx k c ∉ keysF Q):fstep nx i k Q c=Q++[(nx k c,(i:Int),(c:Int))]:=if_pos ⟨h,h2⟩
theorem exE {X R:Type} {o:Option X} {M:X→Option R} {C:R→Prop} (Q:X→Prop) (h:∃ x,o=some x∧Q x) (k:∀ x,Q x→∃ t,M x=some t∧C t):∃ t,o.bind M=some t∧C t:=by
 obtain ⟨x,rfl,hq⟩:=h;exact k x hq
theorem lpE {V R Y:Type} {o:Option (Ou V R)} {M:V→Option Y} {Rt:R→Option Y} {C:Y→Prop} (Q:Ou V R→Prop) (h:∃ x,o=some x∧Q x) (k:∀ x,Q x→∃ t,lpO (some x) M Rt=some t∧C t):∃ t,lpO o M Rt=some t∧C t:=by
 obtain ⟨x,rfl,hq⟩:=h;exact k x hq
theorem first_eq {a b:List (List Int)} {n:Nat} (ta:TabOk a n) (tb:TabOk b n) (hn:n≤1000000) {start:Int × Int} (hs:start∈prs a.length b.length) {isO:Int × Int→Option Bool} {is:Int × Int→Bool} (hio:∀ p,isO p=some (is p)) (his:is deadP=false) :
  ∃ r,m_minimal_first a b (n:Int) start isO=some r∧Ans (nx2 a b) start n is r∧r.1.length≤(prs a.length b.length).length:=by
 have hSz:=prs_small ta.len tb.len
 have hwf:∀ p∈prs a.length b.length,wfST p=true:=fun p hp=>by
  obtain ⟨h1,h2⟩:=mem_prs.1 hp;have:=ta.len;have:=tb.len;exact wf_small (by omega) (by omega)
 have hS:∀ k∈prs a.length b.length,∀ c,c<n→nx2 a b k c=deadP∨nx2 a b k c∈prs a.length b.length:=fun k hk c hc=>by
  obtain ⟨h1,h2⟩:=mem_prs.1 hk;exact .inr (mem_prs.2 ⟨nxt_rng ta h1 hc,nxt_rng tb h2 hc⟩)
 unfold m_minimal_first
 have h4:kset wfST start true ([]:List (TST × Bool))=some (sn [(start, -1, -1)]):=by
  have:=kset_sn (Q:=[]) (hwf _ hs) (fun x hx=>by cases hx) (-1) (-1)
  simpa [sn,keysF] using this
 refine exE (· = sn [(start, -1, -1)]) ⟨_,h4,rfl⟩ fun x e=>?_;subst e;refine lpE (fun y=>(∃ w,y=.ret (w,true)∧Ans (nx2 a b) start n is (w,true)∧w.length≤(prs a.length b.length).length)∨(y=.go ()∧Ans (nx2 a b) start n is ([],false))) (outer_loop (S:=prs a.length b.length) (fun c=>rfl) his hS (fun i Q W x w h hx hw=>?_) (fun i Q hi=>?_) ((prs a.length b.length).length+1) 0 [(start, -1, -1)] [[]] (FInv.init hs) (fun j x hj=>by omega) (by simp) (by omega)) fun y hy=>?_
 ·have hil:=(List.getElem?_eq_some_iff.1 hx).1
  have hQb:=h.bound
  have hxi:idx Q (i:Int)=some x:=by rw [idx_nat]; exact hx
  have hQw:∀ y∈Q,wfST y.1=true:=fun y hy=>hwf _ (h.mem y hy);show (if (i:Int)<((Q.length:Nat):Int) then _ else _)=_;rw [if_pos (by omega)];simp only [hxi,Option.bind_some,hio];by_cases ht:is x.1=true
  ·rw [if_pos ht,if_pos ht]
   have hwl:=h.wlen i w hw;refine bindL (chain_loop h (fun k z acc hz hacc=>?_) i w [] hw (by simp; omega)) ?_
   ·have hzi:idx Q (k:Int)=some z:=by rw [idx_nat]; exact hz
    simp only [hzi,Option.bind_some];by_cases hne:z.2.1 ≠ -1
    ·rw [if_pos hne,if_pos hne,if_pos (by unfold fits maxLen; simp only [List.length_singleton]; omega)]
    rw [if_neg hne,if_neg hne]
   rw [if_pos (by simp; omega)];simp
  rw [if_neg ht,if_neg ht];refine bindL (row_loop (nx:=nx2 a b) (i:=i) (k:=x.1) (n:=n) (fun m hm=>?_) (fun Q'=>?_)) ?_
  ·obtain ⟨W',h'⟩:=h.row hx hS m (by omega)
   have hQb':=h'.bound;have hQw':∀ y∈frow (nx2 a b) i x.1 m Q,wfST y.1=true:=fun y hy=>hwf _ (h'.mem y hy);generalize frow (nx2 a b) i x.1 m Q=Q' at *;obtain ⟨m1,m2⟩:=mem_prs.1 (h.mem x (List.mem_of_getElem? hx));have hk:wfST (nxt a x.1.1 m,nxt b x.1.2 m)=true:=hwf _ (mem_prs.2 ⟨nxt_rng ta m1 hm,nxt_rng tb m2 hm⟩);show (if (m:Int)<(n:Int) then _ else _)=_;rw [if_pos (by omega)]
   have hw1:IntKind.wrap .i64 ((m:Int)+1)=((m+1:Nat):Int):=by rw [w64 (by omega) (by omega)]; omega
   unfold jp;simp only [next_eq ta m1 hm,next_eq tb m2 hm,Option.bind_some,hw1];have hd:nx2 a b x.1 m=(nxt a x.1.1 m,nxt b x.1.2 m):=rfl;by_cases e1:((nxt a x.1.1 m,nxt b x.1.2 m):Int × Int)=deadP
   ·rw [if_pos (show ((nxt a x.1.1 m,nxt b x.1.2 m):TST)=((-1),(-1)) from e1),fstep_dead (hd.trans e1)]
    rfl
   rw [if_neg (show ¬ ((nxt a x.1.1 m,nxt b x.1.2 m):TST)=((-1),(-1)) from e1),kget_sn hk hQw'];simp only [Option.bind_some];by_cases e2:((nxt a x.1.1 m,nxt b x.1.2 m):Int × Int)∈keysF Q'
   ·rw [fstep_old (by rw [hd]; exact e2),decide_eq_true e2]
    rfl
   rw [fstep_new (by rw [hd]; exact e1) (by rw [hd]; exact e2),hd,decide_eq_false e2];show ((kset wfST _ true (sn Q')).bind fun x51=>_)=_;rw [kset_sn hk hQw' (i:Int) (m:Int)];simp only [Option.bind_some];rw [if_pos (by unfold fits maxLen; simp only [List.length_singleton]; omega)]
  ·show (if (n:Int)<(n:Int) then _ else _)=_
   rw [if_neg (by omega)]
  have hw1:IntKind.wrap .i64 ((i:Int)+1)=((i+1:Nat):Int):=by rw [w64 (by omega) (by omega)]; omega
  simp only [hw1]
 ·show (if (i:Int)<((Q.length:Nat):Int) then _ else _)=_
  rw [if_neg (by omega)]
 rcases hy with ⟨w,rfl,hA⟩ | ⟨rfl,hA⟩
 ·exact ⟨_,rfl,hA⟩
 exact ⟨_,rfl,hA,Nat.zero_le _⟩
def bits4:List (Bool × Bool × Bool × Bool):=[false,true].flatMap fun a=>[false,true].flatMap fun b=>[false,true].flatMap fun c=>[false,true].map fun d=>(a,b,c,d)
theorem mem_bits4:∀ a b c d:Bool,(a,b,c,d)∈bits4:=by decide
def code4 (x:List Int):Bool × Bool × Bool × Bool:=(decide ((0:Int)∈x),decide ((1:Int)∈x),decide ((2:Int)∈x),decide ((3:Int)∈x))
theorem few_len {g:Gr} (h4:g.2.1≤4) {L:List (List Int)} (hnd:L.Nodup) (hg:∀ x∈L,SetOk g x):L.length≤16:=by
 have h:(L.map code4).Nodup:=by
  unfold List.Nodup at hnd ⊢;rw [List.pairwise_map];refine (List.pairwise_iff_forall_sublist.2 fun {x y} hs=>?_);have hxy:x≠y:=(List.pairwise_iff_forall_sublist.1 hnd) hs;have hx:=hg x (hs.subset (by simp));have hy:=hg y (hs.subset (by simp));intro e;refine hxy (asc_uniq hx.1 hy.1 fun z=>?_);simp only [code4,Prod.mk.injEq] at e;obtain ⟨e0,e1,e2,e3⟩:=e;have f0:=decide_eq_decide.1 e0;have f1:=decide_eq_decide.1 e1;have f2:=decide_eq_decide.1 e2;have f3:=decide_eq_decide.1 e3;constructor
  ·intro hz
   have:=hx.2 z hz
   rcases (by omega:z=0∨z=1∨z=2∨z=3) with rfl | rfl | rfl | rfl
   ·exact f0.1 hz
   ·exact f1.1 hz
   ·exact f2.1 hz
   exact f3.1 hz
  intro hz;have:=hy.2 z hz
  rcases (by omega:z=0∨z=1∨z=2∨z=3) with rfl | rfl | rfl | rfl
  ·exact f0.2 hz
  ·exact f1.2 hz
  ·exact f2.2 hz
  exact f3.2 hz
 have:=nodup_sub_len h (m:=bits4) fun x hx=>by
  obtain ⟨y,_,rfl⟩:=List.mem_map.1 hx;exact mem_bits4 _ _ _ _
 rw [List.length_map] at this;exact this
theorem brun_few {g:Gr} (hv:VG g) (h4:g.2.1≤4) (h3:g.1≤3):∀ f i st,st.2.Nodup→Good g st→st.1.length≤3*i→i≤st.2.length→i+f=66→∃ st',brun g f i st=some st'
 | 0,i,st,hnd,hg,_,hi,hf=>by
  have:=few_len h4 hnd hg;omega
 | f+1,i,st,hnd,hg,he,hi,hf=>by
  unfold brun;by_cases hlt:i<st.2.length
  ·rw [if_pos hlt]
   have hgr:=browN_grow (g:=g) i (st.2.getD i []) st g.1.toNat;have k2:(brow g i st).2.Nodup:=browN_nd hnd _;have k3:Good g (brow g i st):=browN_good hg _;have hl:=few_len h4 k2 k3;have hl0:=few_len h4 hnd hg;have hE:(brow g i st).1.length≤st.1.length+g.1.toNat:=hgr.2.2.1;have hpre:=hgr.2.1.length_le;rw [if_pos (show small (brow g i st) from ⟨by omega,by omega⟩)];exact brun_few hv h4 h3 f (i+1) _ k2 k3 (by omega) (by unfold brow; omega) (by omega)
  rw [if_neg hlt];exact ⟨st,rfl⟩
def valM (l:List Ed) (s c:Int):Int:=match l.find? (atE s c) with
 | some e=>e.2.2
 | none => -1
theorem rowsM_succ (g:Gr) (n:Int) {k:Nat} (h:k<g.2.2.length):rowsM g n (k+1)=setR (rowsM g n k) g.2.2[k]:=by
 unfold rowsM;rw [← List.take_append_getElem h,List.foldl_append];rfl
theorem rowsM_spec {g:Gr} (hv:VG g) (hd:detB g.2.2=true):∀ k,k≤g.2.2.length→(rowsM g g.1 k).length=g.2.1.toNat∧(∀ i,i<g.2.1.toNat→((rowsM g g.1 k).getD i []).length=g.1.toNat) ∧
  ∀ s c:Nat,s<g.2.1.toNat→c<g.1.toNat→((rowsM g g.1 k).getD s []).getD c (-1)=valM (g.2.2.take k) s c:=by
 intro k
 induction k with
 | zero =>
  intro _
  have e:rowsM g g.1 0=List.replicate g.2.1.toNat (List.replicate g.1.toNat (-1)):=by simp [rowsM]
  rw [e];refine ⟨by simp,fun i hi=>?_,fun s c hs hc=>?_⟩
  ·rw [List.getD_eq_getElem?_getD,List.getElem?_eq_getElem (by simpa using hi)]
   simp
  have e1:(List.replicate g.2.1.toNat (List.replicate g.1.toNat (-1:Int))).getD s []=List.replicate g.1.toNat (-1):=by
   rw [List.getD_eq_getElem?_getD,List.getElem?_eq_getElem (by simpa using hs)];simp
  rw [e1,List.getD_eq_getElem?_getD,List.getElem?_eq_getElem (by simpa using hc)];simp [valM]
 | succ k ih =>
  intro hk
  have hk':k<g.2.2.length:=by omega
  obtain ⟨h1,h2,h3⟩:=ih (by omega);rw [rowsM_succ g g.1 hk'];have hb:=hv.ed _ (List.getElem_mem hk')
  have hfr:g.2.2[k].1.toNat<g.2.1.toNat:=by omega
  have hlb:g.2.2[k].2.1.toNat<g.1.toNat:=by omega
  have hv1:∀ s c:Int,valM (g.2.2.take (k+1)) s c=if g.2.2[k].1=s∧g.2.2[k].2.1=c then g.2.2[k].2.2 else valM (g.2.2.take k) s c:=fun s c=>by
   unfold valM;rw [← List.take_append_getElem hk',List.find?_append];by_cases e:g.2.2[k].1=s∧g.2.2[k].2.1=c
   ·rw [if_pos e]
    have hn:(g.2.2.take k).find? (atE s c)=none:=by
     rw [List.find?_eq_none];intro x hx;obtain ⟨i,hi,rfl⟩:=List.getElem_of_mem hx;rw [List.length_take] at hi;rw [List.getElem_take];simp only [atE,decide_eq_true_eq];intro hh;have:=det_ne hv hd (i:=i) (j:=k) (by omega) hk' (by omega) (by omega);omega
    rw [hn];simp [atE,e]
   rw [if_neg e]
   cases (g.2.2.take k).find? (atE s c) with
   | some f=>rfl
   | none=>simp [atE,e]
  unfold setR;refine ⟨by rw [List.length_set]; exact h1,fun i hi=>?_,fun s c hs hc=>?_⟩
  ·by_cases e:g.2.2[k].1.toNat=i
   ·subst e
    rw [getD_set_self' (by omega),List.length_set];exact h2 _ hi
   rw [getD_set_ne' e];exact h2 _ hi
  rw [hv1];by_cases e:g.2.2[k].1.toNat=s
  ·subst e
   rw [getD_set_self' (by omega)];by_cases e2:g.2.2[k].2.1.toNat=c
   ·subst e2
    rw [getD_set_self' (by rw [h2 _ hs]; exact hlb),if_pos ⟨by omega,by omega⟩]
   rw [getD_set_ne' e2,if_neg (by omega)];exact h3 _ _ hs hc
  rw [getD_set_ne' e,if_neg (by omega)];exact h3 _ _ hs hc
def posL (L:List (List Int)) (s:List Int):Int:=if s=[] then -1 else ((L.idxOf s:Nat):Int)
theorem posL_neg {L:List (List Int)} {s:List Int}:posL L s = -1↔s=[]:=by
 unfold posL;by_cases h:s=[]
 ·simp [h]
 rw [if_neg h];simp only [h,iff_false];omega
structure Side (g:Gr) (G:Gr) (t:List (List Int)) (L:List (List Int)):Prop where
 bld:m_subset_Build g=some (G,L,0)
 lbl:G.1=g.1
 of:m_minimal_of G g.1=some t
 tab:TabOk t g.1.toNat
 few:t.length≤64
 st0:posL L (upto g.2.1)=if 0<G.2.1 then 0 else -1
 ini:upto g.2.1=[]∨upto g.2.1∈L
 rng:∀ s,s=[]∨s∈L → -1≤posL L s∧posL L s<(t.length:Int)
 clo:∀ s,s=[]∨s∈L→∀ c:Nat,c<g.1.toNat→(stepL g s (c:Int)=[]∨stepL g s (c:Int)∈L)∧nxt t (posL L s) c=posL L (stepL g s (c:Int))
theorem side_of {g:Gr} (hv:VG g) (h4:g.2.1≤4) (h3:g.1≤3):∃ G t L,Side g G t L:=by
 obtain ⟨e,he,hz⟩:=Check_tot g;have hE:=hz.2 hv;subst hE;have hB:=Build_eq he hz;have l1:=hv.l1;unfold buildE at hB;rw [if_neg (fun h=>h rfl)] at hB;unfold buildG at hB;by_cases hn:g.2.1=0
 ·rw [if_pos hn] at hB
  have hup:upto g.2.1=[]:=by rw [hn]; rfl
  refine ⟨_,[],_,hB,rfl,?_,⟨by simp,by simp,by simp⟩,by simp,?_,.inl hup,?_,?_⟩
  ·unfold m_minimal_of
   rw [if_pos ⟨⟨by omega,by omega⟩,⟨by simp,by simp⟩,by simp,fun e he=>by cases he⟩];rfl
  ·rw [hup]; rfl
  ·rintro s (rfl | h)
   ·exact ⟨Int.le_refl _,by decide⟩
   cases h
  rintro s (rfl | h) c hc
  ·rw [stepL_nil]; exact ⟨.inl rfl,rfl⟩
  cases h
 rw [if_neg hn] at hB;have hs0:=hv.s0;have hne:upto g.2.1≠[]:=upto_ne (by omega);obtain ⟨st,hrun⟩:=brun_few hv h4 h3 66 0 ([],[upto g.2.1]) (by simp) (good_one (upto_ok g)) (by simp) (by simp) rfl
 rcases buildR_cases (g:=g) (upto_ok g) hne with h | ⟨E,L,hS,_,hb⟩
 ·unfold buildR at h
  rw [hrun] at h;simp at h
 rw [hb] at hB;have hvG:=hS.vg hv;have hdet:=hS.det;have hLp:=hS.len_pos;obtain ⟨r1,r2,r3⟩:=rowsM_spec hvG (by exact hdet) E.length (Nat.le_refl _);simp only [Int.toNat_natCast] at r1 r2 r3;have hfull:E.take E.length=E:=List.take_length
 have htE:∀ s c:Nat,s<L.length→c<g.1.toNat→((rowsM (g.1,(L.length:Int),E) g.1 E.length).getD s []).getD c (-1)=posL L (stepL g (L.getD s []) (c:Int)):=fun s c hs hc=>by
  have:=r3 s c hs hc;rw [this];show valM (E.take E.length) s c=_;rw [hfull];unfold valM posL;by_cases hz':stepL g (L.getD s []) (c:Int)=[]
  ·rw [if_pos hz']
   have hn:E.find? (atE (s:Int) (c:Int))=none:=by
    rw [List.find?_eq_none];intro x hx;simp only [atE,decide_eq_true_eq]
    rintro ⟨e1,e2⟩
    obtain ⟨j,lab',hj,hl,hnz,rfl⟩:=hS.mem.1 hx;simp only at e1 e2
    have e1:j=s:=by omega
    have e2:lab'=c:=by omega
    subst e1 e2;exact hnz hz'
   rw [hn]
  rw [if_neg hz'];have hm:((s:Int),(c:Int),((L.idxOf (stepL g (L.getD s []) (c:Int)):Nat):Int))∈E:=hS.mem.2 ⟨s,c,hs,hc,hz',rfl⟩;have:=find_one hvG hdet hm;simp only at this;rw [this]
 have hclo:∀ s c:Nat,s<L.length→c<g.1.toNat→stepL g (L.getD s []) (c:Int)=[]∨stepL g (L.getD s []) (c:Int)∈L:=fun s c hs hc=>hS.clo s hs c hc
 have hpr:∀ s,s=[]∨s∈L → -1≤posL L s∧posL L s<(L.length:Int):=by
  rintro s (rfl | h)
  ·exact ⟨Int.le_refl _,by show (-1:Int)<_; omega⟩
  have:=idxOf_lt h;unfold posL;rw [if_neg (hS.ne s h)];omega
 refine ⟨_,rowsM (g.1,(L.length:Int),E) g.1 E.length,_,hB,rfl,?_,⟨?_,fun r hr=>?_,fun r hr x hx=>?_⟩,by have:=hS.s1; omega,?_,?_,?_,?_⟩
 ·unfold m_minimal_of
  have hs1:=hS.s1;have hs2:=hS.s2;have l2:=hv.l2;rw [if_pos ⟨⟨by omega,by omega⟩,⟨by show (0:Int)≤(L.length:Int); omega,by show (L.length:Int)≤1000; omega⟩,by show E.length≤_; omega,fun e he=>⟨⟨(hvG.ed e he).1,(hvG.ed e he).2.1⟩,(hvG.ed e he).2.2.2.2⟩⟩]
 ·have hs1:=hS.s1
  rw [r1]; omega
 ·obtain ⟨i,hi,rfl⟩:=List.getElem_of_mem hr
  rw [r1] at hi;have:=r2 i hi
  rwa [getD_lt] at this
 ·obtain ⟨i,hi,rfl⟩:=List.getElem_of_mem hr
  rw [r1] at hi;have hrl:=r2 i hi;rw [getD_lt (by omega)] at hrl;obtain ⟨c,hc,rfl⟩:=List.getElem_of_mem hx;have:=htE i c hi (by omega);rw [getD_lt (show i<_ by omega),getD_lt hc] at this;rw [this,r1];exact hpr _ (hclo i c hi (by omega))
 ·rw [if_pos (by show (0:Int)<(L.length:Int); omega)]
  unfold posL;rw [if_neg hne];have h0:=hS.zero;rw [← h0,hS.idx_at hLp];rfl
 ·right
  have h0:=hS.zero;rw [← h0];exact getD_mem hLp
 ·rw [r1]; exact hpr
 rintro s (rfl | h) c hc
 ·rw [stepL_nil]; exact ⟨.inl rfl,rfl⟩
 have hlt:=idxOf_lt h;have hat:=hS.at_idx h;have h1:=hclo _ c hlt hc;have h2:=htE _ c hlt hc;rw [hat] at h1 h2;refine ⟨h1,?_⟩
 have hp:posL L s=((L.idxOf s:Nat):Int):=by unfold posL; rw [if_neg (hS.ne s h)]
 unfold nxt;rw [hp,if_neg (by omega),Int.toNat_natCast];exact h2
theorem run_sides {g h G H:Gr} {t u:List (List Int)} {L M:List (List Int)} (sg:Side g G t L) (sh:Side h H u M) (e:g.1=h.1):∀ (w:List Int) (s s':List Int),(s=[]∨s∈L)→(s'=[]∨s'∈M)→Lb g.1.toNat w →
  runP (nx2 t u) (posL L s,posL M s') w=(posL L (endsI g s w),posL M (endsI h s' w))
 | [],_,_,_,_,_=>rfl
 | c::w,s,s',h1,h2,hw=>by
  have hc:=hw c (by simp);obtain ⟨a1,a2⟩:=sg.clo s h1 c.toNat (by omega);obtain ⟨b1,b2⟩:=sh.clo s' h2 c.toNat (by omega)
  have ec:((c.toNat:Nat):Int)=c:=by omega
  rw [ec] at a1 a2 b1 b2;show runP (nx2 t u) (nxt t (posL L s) c.toNat,nxt u (posL M s') c.toNat) w=_;rw [a2,b2];exact run_sides sg sh e w _ _ a1 b1 fun x hx=>hw x (by simp [hx])
section
variable {g h G H:Gr} {t u:List (List Int)} {L M:List (List Int)}
theorem check_ok {g:Gr} (hv:VG g):m_graph_Check g=some 0:=by
 obtain ⟨e,he,hz⟩:=Check_tot g;rw [Check_ref,he,hz.2 hv]
theorem search_mid (hg:VG g) (hh:VG h) (sg:Side g G t L) (sh:Side h H u M) (e:g.1=h.1) (isO:Int × Int→Option Bool) :
  m_minimal_search g h isO=if ((posL L (upto g.2.1),posL M (upto h.2.1)):Int × Int)=(-1, -1) then some ([],true,0) else (m_minimal_first t u g.1 (posL L (upto g.2.1),posL M (upto h.2.1)) isO).bind fun x=>some (x.1,!x.2,0):=by
 have hm:max g.1 h.1=g.1:=by omega
 have i0:idx [g,h] (0:Int)=some g:=rfl;have i1:idx [g,h] (1:Int)=some h:=rfl;have ho:=sh.of;rw [← e] at ho;unfold m_minimal_search jp;rw [check_ok hg,check_ok hh];simp only [Option.bind_some];rw [if_neg (fun h=>h rfl),if_neg (by simp)];rw [hm];refine lpL (x:=Ou.go (t,u,posL L (upto g.2.1),posL M (upto h.2.1))) ?_ rfl;refine (loopW_next (s':=((1:Int),t,([]:List (List Int)),posL L (upto g.2.1),(-1:Int))) ?_).trans ((loopW_next (s':=((2:Int),t,u,posL L (upto g.2.1),posL M (upto h.2.1))) ?_).trans (loopW_exit ?_))
 ·dsimp only
  rw [if_pos (by show (0:Int)<2; decide),i0];simp only [Option.bind_some,sg.bld];rw [if_neg (fun h=>h rfl),sg.of];simp only [Option.bind_some];rw [if_pos trivial,sg.st0];by_cases hp:0<G.2.1
  ·simp only [hp,if_true,decide_true]
   rfl
  simp only [hp,if_false,Bool.false_eq_true];rfl
 ·dsimp only
  rw [if_pos (by show (1:Int)<2; decide),i1];simp only [Option.bind_some,sh.bld];rw [if_neg (fun h=>h rfl),ho];simp only [Option.bind_some];rw [if_neg (by decide),if_pos trivial,sh.st0];by_cases hp:0<H.2.1
  ·simp only [hp,if_true]
   simp;rfl
  simp only [hp,if_false,Bool.false_eq_true];rfl
 dsimp only;rw [if_neg (by show ¬ (2:Int)<2; decide)]
theorem search_eq (hg:VG g) (hh:VG h) (sg:Side g G t L) (sh:Side h H u M) (e:g.1=h.1) {isO:Int × Int→Option Bool} {is:Int × Int→Bool} (hio:∀ p,isO p=some (is p)) (his:is deadP=false) :
  ∃ r,m_minimal_search g h isO=some (r.1,!r.2,0)∧Ans (nx2 t u) (posL L (upto g.2.1),posL M (upto h.2.1)) g.1.toNat is r∧r.1.length≤5000:=by
 rw [search_mid hg hh sg sh e isO];have l1:=hg.l1;have l2:=hg.l2;by_cases hd:((posL L (upto g.2.1),posL M (upto h.2.1)):Int × Int)=(-1, -1)
 ·rw [if_pos hd]
  refine ⟨([],false),rfl,.inr ⟨rfl,fun v _=>?_⟩,by simp⟩;rw [hd]
  have hrun:∀ v:List Int,runP (nx2 t u) (-1, -1) v=deadP:=by
   intro v
   induction v with
   | nil=>rfl
   | cons c v ih=>exact ih
  rw [hrun];exact his
 rw [if_neg hd];have r1:=sg.rng _ sg.ini;have r2:=sh.rng _ sh.ini
 have htab:TabOk u g.1.toNat:=by have:=sh.tab; rwa [← e] at this
 obtain ⟨r,hr,hA,hl⟩:=first_eq sg.tab htab (by omega) (start:=(posL L (upto g.2.1),posL M (upto h.2.1))) (mem_prs.2 ⟨r1,r2⟩) hio his;rw [show ((g.1.toNat:Nat):Int)=g.1 by omega] at hr;refine ⟨r,by rw [hr]; rfl,hA,?_⟩;rw [prs_len] at hl;have h1:=sg.few;have h2:=sh.few;have:(t.length+1)*(u.length+1)≤65*65:=Nat.mul_le_mul (by omega) (by omega);omega
end
def live (g:Gr) (w:List Int):Bool:=decide (endsI g (upto g.2.1) w≠[])
def AnsW (g h:Gr) (P:Bool→Bool→Bool) (r:List Int × Bool):Prop :=
 (r.2=true∧Lb g.1.toNat r.1∧P (live g r.1) (live h r.1)=true∧∀ v,Lb g.1.toNat v→P (live g v) (live h v)=true→r.1.length≤v.length)∨(r=([],false)∧∀ v,Lb g.1.toNat v→P (live g v) (live h v)=false)
theorem searchW {g h:Gr} (hg:VG g) (hh:VG h) (g4:g.2.1≤4) (g3:g.1≤3) (h4:h.2.1≤4) (e:g.1=h.1) {isO:Int × Int→Option Bool} {P:Bool→Bool→Bool} (hP:P false false=false)
  (hio:∀ p,isO p=some (P (decide (p.1 ≠ -1)) (decide (p.2 ≠ -1)))):∃ r,m_minimal_search g h isO=some (r.1,!r.2,0)∧AnsW g h P r∧r.1.length≤5000:=by
 obtain ⟨G,t,L,sg⟩:=side_of hg g4 g3;obtain ⟨H,u,M,sh⟩:=side_of hh h4 (by omega);obtain ⟨r,hr,hA,hl⟩:=search_eq hg hh sg sh e (is:=fun p=>P (decide (p.1 ≠ -1)) (decide (p.2 ≠ -1))) hio hP
 have key:∀ v,Lb g.1.toNat v→P (decide ((runP (nx2 t u) (posL L (upto g.2.1),posL M (upto h.2.1)) v).1 ≠ -1)) (decide ((runP (nx2 t u) (posL L (upto g.2.1),posL M (upto h.2.1)) v).2 ≠ -1))=P (live g v) (live h v):=fun v hv=>by
  rw [run_sides sg sh e v _ _ sg.ini sh.ini hv];unfold live;simp only [ne_eq,posL_neg]
 refine ⟨r,hr,?_,hl⟩
 rcases hA with ⟨a1,a2,a3,a4⟩ | ⟨a1,a2⟩
 ·exact .inl ⟨a1,a2,(key _ a2).symm.trans a3,fun v hv hp=>a4 v hv ((key v hv).trans hp)⟩
 exact .inr ⟨a1,fun v hv=>(key v hv).symm.trans (a2 v hv)⟩
theorem equal_eq {g h:Gr} (hg:VG g) (hh:VG h) (g4:g.2.1≤4) (g3:g.1≤3) (h4:h.2.1≤4) (e:g.1=h.1):∃ r,m_minimal_Equal g h=some (r.1,!r.2,0)∧AnsW g h (fun x y=>x != y) r∧r.1.length≤5000:=by
 obtain ⟨r,hr,hA,hl⟩:=searchW hg hh g4 g3 h4 e (isO:=fun b0=>m_minimal_one b0) (P:=fun x y=>x != y) rfl fun p=>by
  unfold m_minimal_one
  by_cases h1:p.1 = -1 <;> by_cases h2:p.2 = -1 <;> simp [h1,h2]
 refine ⟨r,?_,hA,hl⟩;unfold m_minimal_Equal;rw [hr];rfl
def wl (w:List Int):List UInt8:=w.map fun x=>letters.getD x.toNat 0
theorem ends_lab (g:Gr) (a:List Int) (v:List UInt8):endsL g a v=endsI g a (v.map lab):=by
 unfold endsL endsI;rw [List.foldl_map]
def Wn (g:Gr) (n:Nat):List (List UInt8):=(allW (lets g) n).filter (accB g)
def gold:Gr:=(2,2,[(0,0,0),(0,1,1),(1,0,0)])
def goldS:Gr:=(2,3,[(0,0,1),(0,1,2),(1,0,1),(1,1,2),(2,0,1)])
theorem gold_ok:VG gold where
 l1:=by decide
 l2:=by decide
 s0:=by decide
 s1:=by decide
 el:=by decide
 ed:=by decide
 ord:=fun i h=>match i,h with
  | 0,_=>by show cmp3 ((0,0,0):Int × Int × Int) (0,1,1)<0; decide
  | 1,_=>by show cmp3 ((0,1,1):Int × Int × Int) (1,0,0)<0; decide
  | n+2,h=>absurd h (by show ¬ n+2+1<3; omega)
theorem goldS_ok:VG goldS where
 l1:=by decide
 l2:=by decide
 s0:=by decide
 s1:=by decide
 el:=by decide
 ed:=by decide
 ord:=fun i h=>match i,h with
  | 0,_=>by show cmp3 ((0,0,1):Int × Int × Int) (0,1,2)<0; decide
  | 1,_=>by show cmp3 ((0,1,2):Int × Int × Int) (1,0,1)<0; decide
  | 2,_=>by show cmp3 ((1,0,1):Int × Int × Int) (1,1,2)<0; decide
  | 3,_=>by show cmp3 ((1,1,2):Int × Int × Int) (2,0,1)<0; decide
  | n+4,h=>absurd h (by show ¬ n+4+1<5; omega)
def pairsG:List (List Int × List Int):=[([0,1],[0,1,2]),([0],[1]),([1],[2]),([],[])]
theorem pairsG_step:∀ p∈pairsG,∀ c:Nat,c<2→(stepL gold p.1 (c:Int),stepL goldS p.2 (c:Int))∈pairsG:=by decide +kernel
theorem pairsG_ends:∀ p∈pairsG,decide (p.1≠[])=decide (p.2≠[]):=by decide
theorem pairsG_run:∀ (v:List Int) (p:List Int × List Int),Lb 2 v→p∈pairsG→(endsI gold p.1 v,endsI goldS p.2 v)∈pairsG
 | [],p,_,hp=>hp
 | c::v,p,hv,hp=>by
  have hc:=hv c (by simp);have:=pairsG_step p hp c.toNat (by omega);rw [show ((c.toNat:Nat):Int)=c by omega] at this;exact pairsG_run v _ (fun x hx=>hv x (by simp [hx])) this
theorem gold_build:m_subset_Build gold=some (goldS,[[0,1],[0],[1]],0):=by
 obtain ⟨e,he,hz⟩:=Check_tot gold;have hE:=hz.2 gold_ok;subst hE;rw [Build_eq he hz];exact congrArg some (by rfl)
theorem awake27:m_top_top27Awake=some true:=by
 have hgo:m_top_top27Golden=some gold:=rfl;unfold m_top_top27Awake jp;rw [hgo];simp only [Option.bind_some];rw [gold_build];simp only [Option.bind_some];obtain ⟨r,hr,hA,_⟩:=equal_eq gold_ok goldS_ok (by decide) (by decide) (by decide) rfl;have hall:∀ v,Lb 2 v→live gold v=live goldS v:=fun v hv=>pairsG_ends _ (pairsG_run v ([0,1],[0,1,2]) hv (.head _))
 have h2:r.2=false:=by
  rcases hA with ⟨_,h2,h3,_⟩ | ⟨h1,_⟩
  ·rw [hall r.1 h2] at h3
   simp at h3
  rw [h1]
 rw [hr];simp only [Option.bind_some,h2,if_true,Bool.not_false];rfl
theorem great09_tot (g:Gr):∃ b,m_ref09_Great g=some b:=by
 unfold m_ref09_Great;simp only [jp]
 split <;> first | exact ⟨_,rfl⟩ | (split <;> first | exact ⟨_,rfl⟩ | (split <;> first | exact ⟨_,rfl⟩ | (split <;> exact ⟨_,rfl⟩)))
structure Spl (g h:Gr) (par:List Int):Prop where
 lab:h.1=g.1
 len:par.length=h.2.1.toNat
 rng:∀ (c:Nat) (s:Int),par[c]?=some s→0≤s∧s<g.2.1
 kid:∀ s,0≤s→s<g.2.1→∃ c:Nat,par[c]?=some s
 fwd:∀ e∈h.2.2,∃ x∈g.2.2,par[e.1.toNat]?=some x.1∧x.2.1=e.2.1∧par[e.2.2.toNat]?=some x.2.2
 bwd:∀ x∈g.2.2,∃ c:Nat,par[c]?=some x.1∧∀ d:Nat,par[d]?=some x.2.2→((c:Int),x.2.1,(d:Int))∈h.2.2
theorem snocInd {α:Type} {P:List α→Prop} (h0:P []) (h1:∀ l x,P l→P (l++[x])) (l:List α):P l:=by
 have:∀ n (l:List α),l.length=n→P l:=by
  intro n
  induction n with
  | zero=>intro l hl; rw [List.eq_nil_of_length_eq_zero hl]; exact h0
  | succ n ih =>
   intro l hl
   have hne:l≠[]:=by intro e; subst e; cases hl
   rw [← List.dropLast_concat_getLast hne];exact h1 _ _ (ih _ (by rw [List.length_dropLast,hl]; omega))
 exact this _ l rfl
theorem Spl.ends {g h:Gr} {par:List Int} (hg:VG g) (hh:VG h) (S:Spl g h par) (w:List Int) :
  (∀ d∈endsI h (upto h.2.1) w,∃ s∈endsI g (upto g.2.1) w,par[d.toNat]?=some s)∧(∀ s∈endsI g (upto g.2.1) w,∀ d:Nat,par[d]?=some s→(d:Int)∈endsI h (upto h.2.1) w):=by
 have s0:=hh.s0;refine snocInd (P:=fun w=>(∀ d∈endsI h (upto h.2.1) w,∃ s∈endsI g (upto g.2.1) w,par[d.toNat]?=some s)∧(∀ s∈endsI g (upto g.2.1) w,∀ d:Nat,par[d]?=some s→(d:Int)∈endsI h (upto h.2.1) w)) ?_ ?_ w
 ·
  refine ⟨fun d hd=>?_,fun s hs d hd=>?_⟩
  ·obtain ⟨h0,h1⟩:=mem_upto.1 hd
   have hl:d.toNat<par.length:=by rw [S.len]; omega
   exact ⟨par[d.toNat],mem_upto.2 (S.rng _ _ (List.getElem?_eq_getElem hl)),List.getElem?_eq_getElem hl⟩
  refine mem_upto.2 ⟨by omega,?_⟩;have:=(List.getElem?_eq_some_iff.1 hd).1;rw [S.len] at this;omega
 rintro w c ⟨i1,i2⟩
 rw [endsI_snoc,endsI_snoc];refine ⟨fun d hd=>?_,fun s hs d hd=>?_⟩
 ·obtain ⟨e,he,rfl,h2,h3⟩:=(mem_stepL hh).1 hd
  obtain ⟨x,hx,p1,p2,p3⟩:=S.fwd e he;obtain ⟨s,hs,q⟩:=i1 _ h3;refine ⟨x.2.2,(mem_stepL hg).2 ⟨x,hx,rfl,p2.trans h2,?_⟩,p3⟩;rw [q] at p1;cases p1;exact hs
 obtain ⟨x,hx,rfl,h2,h3⟩:=(mem_stepL hg).1 hs;obtain ⟨k,p1,p2⟩:=S.bwd x hx;exact (mem_stepL hh).2 ⟨_,p2 d hd,rfl,h2,i2 _ h3 k p1⟩
theorem Spl.live {g h:Gr} {par:List Int} (hg:VG g) (hh:VG h) (S:Spl g h par) (w:List Int):live g w=live h w:=by
 obtain ⟨h1,h2⟩:=S.ends hg hh w;unfold AW.live
 congr 1
 refine propext (not_congr ⟨fun e=>?_,fun e=>?_⟩)
 ·refine List.eq_nil_iff_forall_not_mem.2 fun d hd=>?_
  obtain ⟨s,hs,_⟩:=h1 d hd;rw [e] at hs;cases hs
 refine List.eq_nil_iff_forall_not_mem.2 fun s hs=>?_
 have hr:0≤s∧s<g.2.1:=by
  refine snocInd (P:=fun w=>s∈endsI g (upto g.2.1) w→0≤s∧s<g.2.1) (fun hs=>mem_upto.1 hs) (fun w c _ hs=>?_) w hs;rw [endsI_snoc] at hs;unfold stepL at hs;exact mem_upto.1 (List.mem_filter.1 hs).1
 obtain ⟨c,hc⟩:=S.kid s hr.1 hr.2;have:=h2 s hs c hc;rw [e] at this;cases this
def SameW (g h:Gr):Prop:=h.1=g.1∧∀ w,live g w=live h w
theorem SameW.refl (g:Gr):SameW g g:=⟨rfl,fun _=>rfl⟩
theorem SameW.trans {g h k:Gr} (a:SameW g h) (b:SameW h k):SameW g k:=⟨b.1.trans a.1,fun w=>(a.2 w).trans (b.2 w)⟩
theorem SameW.Wn {g h:Gr} (S:SameW g h) (n:Nat):Wn g n=Wn h n:=by
 have el:lets g=lets h:=by unfold lets; rw [S.1]
 have ea:accB g=accB h:=by
  funext v
  have:=S.2 (v.map lab);unfold live at this;unfold accB;rw [ends_lab,ends_lab];exact this
 unfold AW.Wn;rw [el,ea]
theorem pow_mono_le {L n j:Nat} (h:L ^ n≤800) (h1:1≤L) (hj:j≤n):L ^ j≤800:=Nat.le_trans (Nat.pow_le_pow_right h1 hj) h
theorem words_800 {g:Gr} (hg:VG g) (h16:g.1≤16) {n:Nat} (hn:n≤6) (hp:g.1.toNat ^ n≤800):m_language_Words g (n:Int)=some (Wn g n,0):=by
 have l1:=hg.l1;exact Words_ok hg (by omega) (by omega) fun j j1 j2=>Nat.le_trans (pow_mono_le hp (by omega) j2) (by decide)
theorem alike_same {g h:Gr} (hg:VG g) (hh:VG h) (h16:g.1≤16) (S:SameW g h):∃ y,m_top_top27Alike g h=some y∧y.2.1=true∧y.2.2=true:=by
 have l1:=hg.l1;have e:=S.1;unfold m_top_top27Alike;refine lpE (fun y:Ou Unit (Int × Bool × Bool)=>y=Ou.go ()∨∃ k,y=Ou.ret (k,true,true)) (loopN 7 (fun i s=>s=((((g.1.toNat ^ (i - 1):Nat)):Int),(i:Int))∧g.1.toNat ^ (i - 1)≤800) (fun i s hi hs=>?_) (fun s hs=>?_) 0 _ (Nat.zero_le _) ⟨rfl,by simp⟩) fun y hy=>?_
 ·obtain ⟨rfl,hpw⟩:=hs
  dsimp only
  have hw1:IntKind.wrap .i64 ((i:Int)+1)=((i+1:Nat):Int):=by rw [w64 (by omega) (by omega)]; omega
  rw [if_pos (by omega)]
  have tail:∀ c:Int,c=((g.1.toNat ^ (i+1 - 1):Nat):Int)→(∃ s',(if 800<c then some (Stp.exit (Ou.ret ((i:Int),true,true))) else
    (m_language_Words g (i:Int)).bind fun x8=>(m_language_Words h (i:Int)).bind fun x10 =>
     jp (fun (a12:Bool)=>if a12=true then some (Stp.exit (Ou.ret ((i:Int),false,false))) else
      (m_slices_Equal_Lstring_string x8.1 x10.1).bind fun x15=>if (!x15)=true then some (Stp.exit (Ou.ret ((i:Int),false,true))) else some (Stp.next (c,IntKind.wrap .i64 ((i:Int)+1))))
      fun k14=>if x8.2≠0 then k14 true else k14 (decide (x10.2≠0)):Option (Stp (Int × Int) (Ou Unit (Int × Bool × Bool))))=some (Stp.next s')∧s'=(((g.1.toNat ^ (i+1 - 1):Nat):Int),((i+1:Nat):Int))∧g.1.toNat ^ (i+1 - 1)≤800) ∨
    ∃ x,(if 800<c then some (Stp.exit (Ou.ret ((i:Int),true,true))) else
    (m_language_Words g (i:Int)).bind fun x8=>(m_language_Words h (i:Int)).bind fun x10 =>
     jp (fun (a12:Bool)=>if a12=true then some (Stp.exit (Ou.ret ((i:Int),false,false))) else
      (m_slices_Equal_Lstring_string x8.1 x10.1).bind fun x15=>if (!x15)=true then some (Stp.exit (Ou.ret ((i:Int),false,true))) else some (Stp.next (c,IntKind.wrap .i64 ((i:Int)+1))))
      fun k14=>if x8.2≠0 then k14 true else k14 (decide (x10.2≠0)):Option (Stp (Int × Int) (Ou Unit (Int × Bool × Bool))))=some (Stp.exit x)∧(x=Ou.go ()∨∃ k,x=Ou.ret (k,true,true)):=by
   intro c hce;by_cases hc:800<c
   ·rw [if_pos hc]
    exact .inr ⟨_,rfl,.inr ⟨_,rfl⟩⟩
   have ep:g.1.toNat ^ i≤800:=by rw [Nat.add_sub_cancel] at hce; omega
   unfold jp;rw [if_neg hc,words_800 hg h16 (by omega) ep,words_800 hh (by omega) (by omega) (by rw [e]; exact ep)];simp only [Option.bind_some];rw [if_neg (fun x=>x rfl),EqS_eq (by have:=Words_len g i (words_800 hg h16 (by omega) ep); dsimp only at this; omega)];simp only [ne_eq,not_true_eq_false,decide_false,Bool.false_eq_true,if_false,Option.bind_some,S.Wn i,decide_true,Bool.not_true];exact .inl ⟨_,rfl,by rw [hce,hw1],by rw [Nat.add_sub_cancel]; exact ep⟩
  have ei:i+1 - 1=i:=by omega
  by_cases h0:0<i
  ·have em:max 1 g.1=((g.1.toNat:Nat):Int):=by omega
   have hb:g.1.toNat ^ (i - 1)*g.1.toNat≤800*16:=Nat.mul_le_mul hpw (by omega)
   have ec:IntKind.wrap .i64 (((g.1.toNat ^ (i - 1):Nat):Int)*max 1 g.1)=((g.1.toNat ^ i:Nat):Int):=by
    rw [em,← Int.natCast_mul];rw [w64 (by omega) (by omega),← Nat.pow_succ,show (i - 1).succ=i by omega]
   simp only [jp];rw [if_pos (by omega)];exact tail _ (by rw [ec,ei])
  simp only [jp];rw [if_neg (by omega)]
  have e0:i=0:=by omega
  exact tail _ (by subst e0; rfl)
 ·obtain ⟨rfl,_⟩:=hs
  exact ⟨_,rfl,.inl rfl⟩
 rcases hy with rfl | ⟨k,rfl⟩
 ·exact ⟨_,rfl,rfl,rfl⟩
 exact ⟨_,rfl,rfl,rfl⟩
def wsum (v:List Int) (l:List Ed):Int:=(l.map fun x=>v.getD x.2.2.toNat 0).sum
theorem wsum_nil (v:List Int):wsum v []=0:=rfl
theorem wsum_app (v:List Int) (l k:List Ed):wsum v (l++k)=wsum v l+wsum v k:=by unfold wsum; rw [List.map_append,List.sum_append]
theorem wsum_one (v:List Int) (x:Ed):wsum v [x]=v.getD x.2.2.toNat 0:=by unfold wsum; simp
theorem wsum_cons (v:List Int) (x:Ed) (l:List Ed):wsum v (x::l)=v.getD x.2.2.toNat 0+wsum v l:=by unfold wsum; simp
theorem wsum_bd {v:List Int} (hv:∀ n∈v,0≤n∧n≤4096):∀ l:List Ed,0≤wsum v l∧wsum v l≤4096*(l.length:Int)
 | []=>by simp [wsum_nil]
 | x::l=>by
  have:=wsum_bd hv l;rw [wsum_cons]
  have h1:0≤v.getD x.2.2.toNat 0∧v.getD x.2.2.toNat 0≤4096:=by
   by_cases h:x.2.2.toNat<v.length
   ·have e:v.getD x.2.2.toNat 0=v[x.2.2.toNat]:=by simp [h]
    rw [e];exact hv _ (List.getElem_mem h)
   have e:v.getD x.2.2.toNat 0=0:=by simp [List.getElem?_eq_none (show v.length≤x.2.2.toNat by omega)]
   omega
  simp only [List.length_cons];omega
theorem wsum_perm {v:List Int} {l k:List Ed} (h:l.Perm k):wsum v l=wsum v k:=by
 induction h with
 | nil=>rfl
 | cons x _ ih=>rw [wsum_cons,wsum_cons,ih]
 | swap x y l=>rw [wsum_cons,wsum_cons,wsum_cons,wsum_cons]; omega
 | trans _ _ h1 h2=>exact h1.trans h2
def from' (l:List Ed) (s:Int):List Ed:=l.filter fun x=>decide (x.1=s)
theorem from_app (l k:List Ed) (s:Int):from' (l++k) s=from' l s++from' k s:=by unfold from'; rw [List.filter_append]
theorem from_one (x:Ed) (s:Int):from' [x] s=if x.1=s then [x] else []:=by
 unfold from';by_cases h:x.1=s
 ·rw [if_pos h,List.filter_cons,if_pos (by simpa using h)]; rfl
 rw [if_neg h,List.filter_cons,if_neg (by simpa using h)]; rfl
structure Eig (g:Gr) (v:List Int) (m:Int):Prop where
 vg:VG g
 m1:1≤m
 m2:m≤256
 len:(v.length:Int)=g.2.1
 rng:∀ n∈v,0≤n∧n≤4096
 nz:∃ n∈v,n≠0
 app:∀ (s:Nat) (h:s<v.length),m*v[s]≤wsum v (from' g.2.2 s)
theorem idxF_loop {α:Type} {l:List α} {f:α→Option Bool} {p:α→Bool} (hf:∀ x∈l,f x=some (p x)) (hl:l.length≤9223372036854775807) :
    ∃ x,loopW (S:=Int) (X:=Ou (Unit) (Int)) (fun a1 =>
     if a1<((l).length:Int) then
      (idx l a1).bind fun x5 =>
      (f x5).bind fun x7 =>
      if x7=true then
       some (Stp.exit (Ou.ret a1))
      else
       some (Stp.next (IntKind.wrap .i64 (a1+1)))
     else
      some (Stp.exit (Ou.go ()))) 0=some x∧(x=Ou.go ()∧l.any p=false∨∃ (k:Nat) (h:k<l.length),x=Ou.ret (k:Int)∧p l[k]=true∧∀ (j:Nat) (hj:j<k),p (l[j]'(by omega))=false):=by
  refine loopN l.length (fun i s=>s=(i:Int)∧∀ (j:Nat) (hj:j<l.length),j<i→p l[j]=false) (fun i s hi hs=>?_) (fun s hs=>?_) 0 0 (Nat.zero_le _) ⟨rfl,fun j hj h=>by omega⟩
  · obtain ⟨rfl,hno⟩:=hs
    rw [if_pos (lt_int hi),ix hi,Option.bind_some,hf _ (List.getElem_mem hi),Option.bind_some];by_cases hp:p l[i]=true
    · rw [if_pos hp]
      exact .inr ⟨_,rfl,.inr ⟨i,hi,rfl,hp,fun j hj=>hno j (by omega) hj⟩⟩
    rw [if_neg hp];refine .inl ⟨_,rfl,nx hl hi,fun j hj hji=>?_⟩;by_cases e:j=i
    · subst e; simpa using hp
    exact hno j hj (by omega)
  obtain ⟨rfl,hno⟩:=hs;rw [if_neg (not_lt_int _)];refine ⟨_,rfl,.inl ⟨rfl,?_⟩⟩;rw [List.any_eq_false];intro x hx;obtain ⟨j,hj,rfl⟩:=List.mem_iff_getElem.1 hx;rw [hno j hj hj];decide
theorem anyF {l:List Int} {f:Int→Option Bool} {p:Int→Bool} (hf:∀ x∈l,f x=some (p x)) (hl:l.length≤9223372036854775807):m_slices_ContainsFunc_Lint_int l f=some (l.any p):=by
 unfold m_slices_ContainsFunc_Lint_int m_slices_IndexFunc_Lint_int;obtain ⟨x,hx,h⟩:=idxF_loop hf hl;rw [hx]
 rcases h with ⟨rfl,h⟩ | ⟨k,hk,rfl,h,_⟩
 ·rw [h]; rfl
 have:l.any p=true:=List.any_eq_true.2 ⟨_,List.getElem_mem hk,h⟩;rw [this];simp only [lpO,Option.bind_some];rw [decide_eq_true (by omega)]
theorem contains_eq {l:List Int} {y:Int} (hl:l.length≤9223372036854775807):m_slices_Contains_Lint_int l y=some (l.any fun x=>decide (y=x)):=by
 have h0:=anyF (f:=fun x=>some (decide (y=x))) (p:=fun x=>decide (y=x)) (fun x _=>rfl) hl;unfold m_slices_ContainsFunc_Lint_int m_slices_IndexFunc_Lint_int at h0;unfold m_slices_Contains_Lint_int m_slices_Index_Lint_int;rw [← h0]
 congr 2
 congr 1
 funext a1
 congr 1
 congr 1
 funext x5
 simp only [Option.bind_some,decide_eq_true_eq]
theorem getD_memI {v:List Int} {j:Nat} (h:j<v.length):v.getD j 0∈v:=by
 have e:v.getD j 0=v[j]:=by simp [h]
 rw [e];exact List.getElem_mem h
theorem sums_eq {g:Gr} {v:List Int} (hg:VG g) (hl:(v.length:Int)=g.2.1) (hv:∀ n∈v,0≤n∧n≤4096):m_eigenvector_sums_int g v=some ((List.range g.2.1.toNat).map fun (s:Nat)=>wsum v (from' g.2.2 (s:Int))):=by
 have s0:=hg.s0; have s1:=hg.s1; have el:=hg.el;unfold m_eigenvector_sums_int;rw [if_pos ⟨s0,Int.le_refl _,by omega⟩];refine bindL (loop_is (fun i=>((i:Int),(List.range g.2.1.toNat).map fun (s:Nat)=>wsum v (from' (g.2.2.take i) (s:Int)))) g.2.2.length ((List.range g.2.1.toNat).map fun (s:Nat)=>wsum v (from' g.2.2 (s:Int))) (fun i hi=>?_) ?_ ?_) rfl
 ·dsimp only
  obtain ⟨e1,e2,e3,e4,e5,e6⟩:=hg.ed _ (List.getElem_mem hi);have hx:g.2.2.take (i+1)=g.2.2.take i++[g.2.2[i]]:=(List.take_append_getElem hi).symm;rw [if_pos (lt_int hi),ix hi,Option.bind_some];generalize g.2.2[i]=x at e1 e2 e3 e4 e5 e6 hx;obtain ⟨a,ha⟩:=Int.eq_ofNat_of_zero_le e1
  have hal:a<g.2.1.toNat:=by omega
  have hget:idx ((List.range g.2.1.toNat).map fun (s:Nat)=>wsum v (from' (g.2.2.take i) (s:Int))) x.1=some (wsum v (from' (g.2.2.take i) x.1)):=by
   rw [ha,idx_nat,List.getElem?_map,List.getElem?_range hal];rfl
  obtain ⟨t,ht⟩:=Int.eq_ofNat_of_zero_le e3
  have htl:t<v.length:=by omega
  have hget2:idx v x.2.2=some (v.getD x.2.2.toNat 0):=by
   rw [ht,idx_nat,List.getElem?_eq_getElem htl];simp [htl]
  simp only [hget,hget2,Option.bind_some,m_eigenvector_plus];have hb:=wsum_bd hv (from' (g.2.2.take i) x.1);have hfl:(from' (g.2.2.take i) x.1).length≤1024:=Nat.le_trans (List.length_filter_le _ _) (by rw [List.length_take]; exact Nat.le_trans (Nat.min_le_right _ _) el);have hvb:=hv _ (getD_memI (v:=v) (j:=x.2.2.toNat) (by omega));rw [nx (by omega) hi,w64 (by omega) (by omega),hx]
  congr 3
  refine List.ext_getElem (by simp) fun j h1 h2=>?_;simp only [List.length_set,List.length_map,List.length_range] at h1;rw [List.getElem_map,List.getElem_range,from_app,wsum_app,from_one];by_cases e:a=j
  ·subst e
   simp only [ha,Int.toNat_natCast,List.getElem_set_self,if_true];rw [wsum_one]
  rw [List.getElem_set_ne (by omega),List.getElem_map,List.getElem_range,if_neg (by omega),wsum_nil,Int.add_zero]
 ·dsimp only
  rw [if_neg (not_lt_int _),List.take_length]
 rw [List.take_zero]
 congr 1
 refine List.ext_getElem (by simp) fun j h1 h2=>?_;rw [List.getElem_map,List.getElem_replicate];rfl
theorem check_tot (g:Gr):∃ e,m_graph_Check g=some e∧(e=0↔VG g):=by
 obtain ⟨e,h1,h2⟩:=Check_tot g;exact ⟨e,by rw [Check_ref,h1],h2⟩
structure Wt (g:Gr) (v:List Int) (m:Int):Prop where
 vg:VG g
 m1:1≤m
 m2:m≤256
 len:(v.length:Int)=g.2.1
 rng:∀ n∈v,0≤n∧n≤4096
theorem echeck_tot (g:Gr) (v:List Int) (m:Int) (hl:v.length≤9223372036854775807):∃ e,m_eigenvector_check g v m=some e∧(e=0↔Wt g v m):=by
 unfold m_eigenvector_check;simp only [jp];obtain ⟨e,h1,h2⟩:=check_tot g;rw [h1,Option.bind_some];by_cases he:e=0
 ·have hg:=h2.1 he
  rw [if_neg (fun h=>h he)];by_cases c1:m<1
  ·rw [if_pos c1]
   exact ⟨2,rfl,by simp,fun h=>by have:=h.m1; omega⟩
  rw [if_neg c1];by_cases c2:256<m
  ·rw [decide_eq_true c2]
   exact ⟨2,rfl,by simp,fun h=>by have:=h.m2; omega⟩
  rw [decide_eq_false c2];simp only [Bool.false_eq_true,if_false];by_cases c3:((v).length:Int)≠g.2.1
  ·rw [if_pos c3]
   exact ⟨11,rfl,by simp,fun h=>absurd h.len c3⟩
  rw [if_neg c3]
  rw [anyF (p:=fun x=>decide (x<0) || decide (4096<x)) (fun x _=>by
   unfold m_eigenvector_check_1;simp only [jp];by_cases h:x<0
   ·rw [if_pos h]; simp [h]
   rw [if_neg h]; simp [h]) hl,Option.bind_some]
  cases ha:v.any (fun x=>decide (x<0) || decide (4096<x)) with
  | true =>
   rw [if_pos rfl];refine ⟨2,rfl,by simp,fun h=>?_⟩;obtain ⟨x,hx,hp⟩:=List.any_eq_true.1 ha;have:=h.rng x hx;simp at hp;omega
  | false =>
   rw [if_neg (by decide)];refine ⟨0,rfl,fun _=>⟨hg,by omega,by omega,Decidable.not_not.1 c3,fun n hn=>?_⟩,fun _=>rfl⟩;have:=List.any_eq_false.1 ha n hn;simp at this;omega
 rw [if_pos he];exact ⟨1,rfl,by simp,fun h=>absurd (h2.2 h.vg) he⟩
theorem eig_tot (g:Gr) (v:List Int) (m:Int) (hl:v.length≤9223372036854775807):∃ e,m_eigenvector_Check g v m=some e∧(e=0↔Eig g v m):=by
 unfold m_eigenvector_Check;obtain ⟨e,h1,h2⟩:=echeck_tot g v m hl;rw [h1,Option.bind_some];by_cases he:e=0
 ·have hw:=h2.1 he
  have m1:=hw.m1; have m2:=hw.m2; have hlen:=hw.len; have s1:=hw.vg.s1;rw [if_neg (fun h=>h he)];unfold m_eigenvector_zero;rw [anyF (f:=fun b0=>m_eigenvector_zero_1 b0) (p:=fun x=>decide (x≠0)) (fun x _=>rfl) hl,Option.bind_some,Option.bind_some]
  cases ha:v.any (fun x=>decide (x≠0)) with
  | false =>
   simp only [Bool.not_false,if_true];refine ⟨5,rfl,by simp,fun h=>?_⟩;obtain ⟨n,hn,h0⟩:=h.nz;have:=List.any_eq_false.1 ha n hn;simp at this;exact absurd this h0
  | true =>
   simp only [Bool.not_true,Bool.false_eq_true,if_false]
   have hnz:∃ n∈v,n≠0:=by
    obtain ⟨n,hn,h0⟩:=List.any_eq_true.1 ha;exact ⟨n,hn,by simpa using h0⟩
   rw [sums_eq hw.vg hw.len hw.rng,Option.bind_some]
   have hsl:((List.range g.2.1.toNat).map fun (s:Nat)=>wsum v (from' g.2.2 (s:Int))).length=v.length:=by rw [List.length_map,List.length_range]; omega
   refine lpE (fun x:Ou Unit Int=>x=Ou.go ()∧Eig g v m∨x=Ou.ret 23∧¬ Eig g v m) (loopN v.length (fun i s=>s=(i:Int)∧∀ (j:Nat) (hj:j<v.length),j<i→m*v[j]≤wsum v (from' g.2.2 (j:Int))) (fun i s hi hs=>?_) (fun s hs=>?_) 0 _ (Nat.zero_le _) ⟨rfl,fun j hj h=>by omega⟩) fun x hx=>?_
   ·obtain ⟨rfl,hno⟩:=hs
    have hvi:=hw.rng _ (List.getElem_mem hi);have hmi:0≤m*v[i]∧m*v[i]≤256*4096:=⟨Int.mul_nonneg (by omega) hvi.1,Int.mul_le_mul m2 hvi.2 hvi.1 (by omega)⟩
    have hge:idx ((List.range g.2.1.toNat).map fun (s:Nat)=>wsum v (from' g.2.2 (s:Int))) (i:Int)=some (wsum v (from' g.2.2 (i:Int))):=by
     rw [idx_nat,List.getElem?_map,List.getElem?_range (by omega)];rfl
    rw [hsl,if_pos (lt_int hi),hge,ix hi,Option.bind_some,Option.bind_some,w64 (by omega) (by omega)];by_cases hc:wsum v (from' g.2.2 (i:Int))<m*v[i]
    ·rw [if_pos hc]
     exact .inr ⟨_,rfl,.inr ⟨rfl,fun h=>by have:=h.app i hi; omega⟩⟩
    rw [if_neg hc];refine .inl ⟨_,rfl,nx hl hi,fun j hj hji=>?_⟩;by_cases e:j=i
    ·subst e; omega
    exact hno j hj (by omega)
   ·obtain ⟨rfl,hno⟩:=hs
    rw [hsl,if_neg (not_lt_int _)];exact ⟨_,rfl,.inl ⟨rfl,⟨hw.vg,m1,m2,hlen,hw.rng,hnz,fun s h=>hno s h h⟩⟩⟩
   rcases hx with ⟨rfl,hE⟩ | ⟨rfl,hE⟩
   ·exact ⟨0,rfl,fun _=>hE,fun _=>rfl⟩
   exact ⟨23,rfl,by simp,fun h=>absurd h hE⟩
 rw [if_pos he];exact ⟨e,rfl,fun h=>absurd h he,fun h=>absurd (h2.2 ⟨h.vg,h.m1,h.m2,h.len,h.rng⟩) he⟩
structure Base (g:Gr) (v:List Int) (m:Int):Prop where
 eig:Eig g v m
 pos:∀ n∈v,1≤n
theorem base_tot (g:Gr) (v:List Int) (m:Int) (hl:v.length≤9223372036854775807):∃ e,m_splitting_base g v m=some e∧(e=0→Base g v m):=by
 unfold m_splitting_base;obtain ⟨e,h1,h2⟩:=eig_tot g v m hl;rw [h1,Option.bind_some];by_cases he:e=0
 ·have hE:=h2.1 he
  rw [if_neg (fun h=>h he),contains_eq hl,Option.bind_some]
  cases ha:v.any (fun x=>decide ((0:Int)=x)) with
  | true=>rw [if_pos rfl]; exact ⟨2,rfl,by simp⟩
  | false =>
   rw [if_neg (by decide)];refine ⟨0,rfl,fun _=>⟨hE,fun n hn=>?_⟩⟩;have h3:=hE.rng n hn;have h4:=List.any_eq_false.1 ha n hn;simp at h4;omega
 rw [if_pos he];exact ⟨e,rfl,fun h=>absurd h he⟩
theorem fits8 {n:Nat} (h:n≤1000000):fits 8 n:=⟨by omega,Nat.le_trans h (by decide)⟩
def outN (l:List Ed) (s:Int):List Int:=(l.zipIdx.filter fun p=>decide (p.1.1=s)).map fun p=>((p.2:Nat):Int)
theorem outN_len (l:List Ed) (s:Int):(outN l s).length≤l.length:=by
 unfold outN;rw [List.length_map];exact Nat.le_trans (List.length_filter_le _ _) (by rw [List.length_zipIdx]; exact Nat.le_refl _)
theorem mem_outN {l:List Ed} {s i:Int}:i∈outN l s↔∃ (n:Nat) (x:Ed),i=(n:Int)∧l[n]?=some x∧x.1=s:=by
 unfold outN;rw [List.mem_map];constructor
 ·rintro ⟨⟨x,n⟩,h,rfl⟩
  obtain ⟨h1,h2⟩:=List.mem_filter.1 h;exact ⟨n,x,rfl,List.mk_mem_zipIdx_iff_getElem?.1 h1,by simpa using h2⟩
 rintro ⟨n,x,rfl,h1,h2⟩
 exact ⟨(x,n),List.mem_filter.2 ⟨List.mk_mem_zipIdx_iff_getElem?.2 h1,by simpa using h2⟩,rfl⟩
theorem outN_nodup (l:List Ed) (s:Int):(outN l s).Nodup:=by
 unfold outN
 have h0:(l.zipIdx.map (·.2)).Nodup:=by
  rw [List.zipIdx_map_snd];exact List.nodup_range'
 have h1:((l.zipIdx.filter fun p=>decide (p.1.1=s)).map (·.2)).Nodup:=(List.filter_sublist.map _).nodup h0
 have e:((l.zipIdx.filter fun p=>decide (p.1.1=s)).map fun p=>((p.2:Nat):Int))=((l.zipIdx.filter fun p=>decide (p.1.1=s)).map (·.2)).map (fun (n:Nat)=>(n:Int)):=by rw [List.map_map]; rfl
 rw [e];exact h1.map (fun n:Nat=>(n:Int)) fun a b hab h=>hab (Int.ofNat.inj h)
theorem out_eq {g:Gr} (hg:VG g) {s:Int} (h0:0≤s) (h1:s<g.2.1):m_graph_Out g s=some (outN g.2.2 s,0):=by
 have el:=hg.el;unfold m_graph_Out;rw [check_ok hg,Option.bind_some];simp only [jp];rw [if_neg (fun h=>h rfl),if_neg (by omega),decide_eq_false (by omega)];simp only [Bool.false_eq_true,if_false]
 have hy:y_graph_leaving g s=some (leaveL g.2.2 s):=by unfold y_graph_leaving; rw [if_pos (by omega)]
 rw [hy,Option.bind_some]
 have hll:(leaveL g.2.2 s).length≤1024:=by
  simp only [leaveL,List.length_map];exact Nat.le_trans (List.length_filter_le _ _) (by rw [List.length_zipIdx]; exact el)
 have key:∀ (L:List (Int × Ed)) (a:List Int),a.length+L.length≤1024→forL (X:=Unit) (fun (a10:List Int) (x12:Int × Ed)=>if fits 8 ((a10:List Int).length+([x12.1]).length) then some (Stp.next (a10++[x12.1])) else none) L a=some (.go (a++L.map (·.1))):=by
  intro L
  induction L with
  | nil=>intro a _; simp only [forL,List.map_nil,List.append_nil]
  | cons x L ih =>
   intro a ha;simp only [List.length_cons] at ha;simp only [forL];rw [if_pos (fits8 (by rw [List.length_singleton]; omega))];dsimp only;rw [ih _ (by rw [List.length_append,List.length_singleton]; omega),List.append_assoc];rfl
 refine lpL (key _ [] (by simpa using hll)) ?_;simp only [lpO,List.nil_append]
 congr 2
 unfold leaveL outN;rw [List.map_map];rfl
theorem less_eq (a b:Int):m_cmp_Less_int a b=some (decide (a<b)):=by
 unfold m_cmp_Less_int m_cmp_isNaN_int;simp only [jp,ne_eq,not_true_eq_false,decide_false,Option.bind_some,Bool.false_eq_true,if_false]
theorem sorted_tot (l:List Int) (hl:l.length≤9223372036854775807):∃ b,m_slices_IsSorted_Lint_int l=some b:=by
  unfold m_slices_IsSorted_Lint_int
  have := lpE (C:=fun _:Bool=>True) (M:=fun _:Unit=>some true) (Rt:=some) (fun _:Ou Unit Bool=>True) (loopN (body:=fun a1:Int =>
     if 0<a1 then
      (idx l a1).bind fun x5 =>
      (idx l (IntKind.wrap .i64 (a1 - 1))).bind fun x7 =>
      (m_cmp_Less_int x5 x7).bind fun x9 =>
      if x9=true then
       some (Stp.exit (Ou.ret false))
      else
       some (Stp.next (IntKind.wrap .i64 (a1 - 1)))
     else
      some (Stp.exit (Ou.go ()))) (Q:=fun _=>True) (l.length - 1) (fun k s=>s=(l.length:Int) - 1 - (k:Int)) (fun k s hk hs=>?_) (fun s hs=>?_) 0 (IntKind.wrap .i64 ((l.length:Int) - 1)) (Nat.zero_le _) (by rw [w64 (by omega) (by omega)]; omega)) fun x _=>?_
  · obtain ⟨b,hb,_⟩:=this
    exact ⟨b,hb⟩
  · subst hs
    obtain ⟨j,hj⟩:∃ j:Nat,(l.length:Int) - 1 - (k:Int)=((j+1:Nat):Int):=⟨l.length - 1 - k - 1,by omega⟩
    have hj1:j+1<l.length:=by omega
    have ew:IntKind.wrap .i64 (((j+1:Nat):Int) - 1)=((j:Nat):Int):=by rw [w64 (by omega) (by omega)]; omega
    rw [hj,if_pos (by omega),ix hj1,Option.bind_some,ew,ix (by omega),Option.bind_some,less_eq,Option.bind_some];by_cases hc:l[j+1]<l[j]
    · rw [decide_eq_true hc,if_pos rfl]
      exact .inr ⟨_,rfl,trivial⟩
    rw [decide_eq_false hc,if_neg (by decide)];exact .inl ⟨_,rfl,by omega⟩
  · subst hs
    rw [if_neg (by omega)];exact ⟨_,rfl,trivial⟩
  cases x with
  | go _=>exact ⟨_,rfl,trivial⟩
  | ret b=>exact ⟨_,rfl,trivial⟩
theorem flat_take {l:List (List Int)} {i:Nat} (h:i<l.length):(l.take (i+1)).flatten=(l.take i).flatten++l[i]:=by
 rw [← List.take_append_getElem h,List.flatten_append];simp
theorem divides_tot {parts:List (List Int)} {out:List Int} (h6:parts.length≤6) (h16:∀ p∈parts,p.length≤16) (ho:out.length≤1024):∃ b,m_splitting_divides parts out=some b∧(b=true→2≤parts.length∧(∀ p∈parts,p≠[])∧parts.flatten.Perm out):=by
 unfold m_splitting_divides
 have hfl:∀ i,i≤parts.length→(parts.take i).flatten.length≤i*16:=by
  intro i
  induction i with
  | zero=>intro _; simp
  | succ i ih =>
   intro hi;have:=ih (by omega);have h2:=h16 _ (List.getElem_mem (show i<parts.length by omega));rw [flat_take (by omega),List.length_append];omega
 refine lpE (fun x:Ou (List Int) Bool=>x=Ou.ret false∨x=Ou.go parts.flatten∧∀ p∈parts,p≠[]) (loopN parts.length (fun i s=>s=((i:Int),(parts.take i).flatten)∧∀ (j:Nat) (hj:j<parts.length),j<i→parts[j]≠[]) (fun i s hi hs=>?_) (fun s hs=>?_) 0 _ (Nat.zero_le _) ⟨by rw [List.take_zero]; rfl,fun j hj h=>by omega⟩) fun x hx=>?_
 ·obtain ⟨rfl,hno⟩:=hs
  dsimp only;have h2:=h16 _ (List.getElem_mem hi);have h3:=hfl i (by omega);rw [if_pos (lt_int hi),ix hi,Option.bind_some];simp only [jp];by_cases c0:((parts[i]).length:Int)=0
  ·rw [if_pos c0]
   exact .inr ⟨_,rfl,.inl rfl⟩
  rw [if_neg c0];obtain ⟨b,hb⟩:=sorted_tot parts[i] (by omega);rw [hb,Option.bind_some]
  cases b with
  | false=>exact .inr ⟨_,rfl,.inl rfl⟩
  | true =>
   simp only [Bool.not_true,Bool.false_eq_true,if_false];rw [if_pos (fits8 (by omega))];refine .inl ⟨_,rfl,by rw [nx (by omega) hi,flat_take hi],fun j hj hji=>?_⟩;by_cases e:j=i
   ·subst e
    intro e2;rw [e2] at c0;exact c0 rfl
   exact hno j hj (by omega)
 ·obtain ⟨rfl,hno⟩:=hs
  dsimp only;rw [if_neg (not_lt_int _),List.take_length];refine ⟨_,rfl,.inr ⟨rfl,fun p hp=>?_⟩⟩;obtain ⟨j,hj,rfl⟩:=List.mem_iff_getElem.1 hp;exact hno j hj hj
 rcases hx with rfl | ⟨rfl,hne⟩
 ·exact ⟨false,rfl,by simp⟩
 have h3:=hfl parts.length (Nat.le_refl _);rw [List.take_length] at h3;simp only [lpO,jp];rw [if_pos (by omega)];by_cases c1:1<(parts.length:Int)
 ·rw [if_pos c1,EqI_eq (by rw [sortI_len]; omega),Option.bind_some]
  refine ⟨_,rfl,fun h=>⟨by omega,hne,?_⟩⟩;have h:=of_decide_eq_true h;rw [← h];exact (List.mergeSort_perm _ _).symm
 rw [if_neg c1];exact ⟨false,rfl,by simp⟩
def pickE (l:List Ed) (p:List Int):List Ed:=p.map fun k=>l.getD k.toNat (0,0,0)
theorem pickE_app (l:List Ed) (p q:List Int):pickE l (p++q)=pickE l p++pickE l q:=by unfold pickE; rw [List.map_append]
theorem getD_at {α:Type} {l:List α} {i:Nat} (h:i<l.length) (d:α):l.getD i d=l[i]:=by simp [h]
def OkI (l:List Ed) (s:Int) (p:List Int):Prop:=∀ k∈p,∃ (n:Nat) (x:Ed),k=(n:Int)∧l[n]?=some x∧x.1=s
theorem part_loop {g:Gr} {v:List Int} {s:Int} (hg:VG g) (hl:(v.length:Int)=g.2.1) (hv:∀ n∈v,0≤n∧n≤4096) {p:List Int} (hp:OkI g.2.2 s p) (hpl:p.length≤1024) :
    loopW (S:=Int × Int) (X:=Int) (fun a9 =>
          if a9.2<((p).length:Int) then
           (idx p a9.2).bind fun x13 =>
           (idx g.2.2 x13).bind fun x15 =>
           (idx v x15.2.2).bind fun x17 =>
           some (Stp.next (IntKind.wrap .i64 (a9.1+x17),IntKind.wrap .i64 (a9.2+1)))
          else
           some (Stp.exit a9.1)) (0,0)=some (wsum v (pickE g.2.2 p)):=by
  refine loop_is (fun i=>(wsum v (pickE g.2.2 (p.take i)),(i:Int))) p.length _ (fun i hi=>?_) ?_ ?_
  · dsimp only
    obtain ⟨n,x,h1,h2,h3⟩:=hp _ (List.getElem_mem hi);obtain ⟨hn,hx⟩:=List.getElem?_eq_some_iff.1 h2;have hed:=hg.ed x (hx ▸ List.getElem_mem hn);have ht:p.take (i+1)=p.take i++[p[i]]:=(List.take_append_getElem hi).symm
    have hpk:pickE g.2.2 [p[i]]=[x]:=by
      unfold pickE;rw [List.map_cons,List.map_nil,h1,Int.toNat_natCast,getD_at hn,hx]
    obtain ⟨t,e⟩:=Int.eq_ofNat_of_zero_le hed.2.2.1
    have htl:t<v.length:=by omega
    have hget2:idx v x.2.2=some (v.getD x.2.2.toNat 0):=by
      rw [e,idx_nat,List.getElem?_eq_getElem htl];simp [htl]
    have hb:=wsum_bd hv (pickE g.2.2 (p.take i))
    have hbl:(pickE g.2.2 (p.take i)).length≤1024:=by unfold pickE; rw [List.length_map,List.length_take]; omega
    have hvb:=hv _ (getD_memI (v:=v) (j:=x.2.2.toNat) (by omega));rw [if_pos (lt_int hi),ix hi,Option.bind_some,h1,idx_nat,h2,Option.bind_some,hget2,Option.bind_some,nx (by omega) hi,w64 (by omega) (by omega),ht,pickE_app,wsum_app,hpk,wsum_one]
  · dsimp only
    rw [if_neg (not_lt_int _),List.take_length]
  rw [List.take_zero];rfl
theorem min_tot {l:List Int} (h0:l≠[]) (hl:l.length≤9223372036854775807):∃ y,m_slices_Min_Lint_int l=some y∧(1≤y→∀ x∈l,1≤x):=by
 have hpos:0<l.length:=List.length_pos_iff.2 h0;unfold m_slices_Min_Lint_int;rw [if_neg (by omega),ix0 hpos,Option.bind_some];refine exE (fun y=>1≤y→∀ x∈l,1≤x) (loopN (l.length - 1) (fun i s=>s.2=((i+1:Nat):Int)∧(1≤s.1→∀ (j:Nat) (hj:j<l.length),j<i+1→1≤l[j])) (fun i s hi hs=>?_) (fun s hs=>?_) 0 _ (Nat.zero_le _) ⟨rfl,fun h j hj hji=>?_⟩) fun y hy=>⟨y,rfl,hy⟩
 ·obtain ⟨a,b⟩:=s
  obtain ⟨rfl,hno⟩:=hs;dsimp only at hno ⊢
  have hc:i+1<l.length:=by omega
  rw [if_pos (lt_int hc),ix hc,Option.bind_some];refine .inl ⟨_,rfl,nx hl hc,fun h j hj hji=>?_⟩;dsimp only at h;by_cases e:j=i+1
  ·subst e; omega
  exact hno (by omega) j hj (by omega)
 ·obtain ⟨a,b⟩:=s
  obtain ⟨rfl,hno⟩:=hs;dsimp only at hno ⊢;rw [if_neg (by omega)];refine ⟨_,rfl,fun h x hx=>?_⟩;obtain ⟨j,hj,rfl⟩:=List.mem_iff_getElem.1 hx;exact hno h j hj (by omega)
 have:j=0:=by omega
 subst this;exact h
structure WtO (g:Gr) (v:List Int) (m:Int) (x:TStateParts) (ws:List Int):Prop where
 len:ws.length=x.2.length
 pos:∀ w∈ws,1≤w
 sum:ws.sum=v.getD x.1.toNat 0
 app:∀ (i:Nat) (h1:i<ws.length) (h2:i<x.2.length),m*ws[i]≤wsum v (pickE g.2.2 x.2[i])
theorem weights_tot {g:Gr} {v:List Int} {m:Int} (hw:Wt g v m) {x:TStateParts} (h0:0≤x.1) (h1:x.1<g.2.1) (hn:2≤x.2.length) (hn6:x.2.length≤6) (hp:∀ p∈x.2,OkI g.2.2 x.1 p∧p.length≤16) :
  ∃ r,m_splitting_weights g v m x=some r∧(r.2=true→WtO g v m x r.1):=by
 have hg:=hw.vg; have hlen:=hw.len; have m1:=hw.m1; have m2:=hw.m2; have s1:=hg.s1;obtain ⟨s,es⟩:=Int.eq_ofNat_of_zero_le h0
 have hsl:s<v.length:=by omega
 have hV:idx v x.1=some (v.getD x.1.toNat 0):=by rw [es,idx_nat,List.getElem?_eq_getElem hsl]; simp [hsl]
 have hVb:=hw.rng _ (getD_memI (v:=v) (j:=x.1.toNat) (by omega))
 have hps:∀ (i:Nat) (h:i<x.2.length),0≤wsum v (pickE g.2.2 x.2[i])∧wsum v (pickE g.2.2 x.2[i])≤65536:=fun i h=>by
  have h2:=wsum_bd hw.rng (pickE g.2.2 x.2[i])
  have h3:(pickE g.2.2 x.2[i]).length≤16:=by unfold pickE; rw [List.length_map]; exact (hp _ (List.getElem_mem h)).2
  omega
 unfold m_splitting_weights;rw [hV,Option.bind_some];generalize hVe:v.getD x.1.toNat 0=V at hVb hV
 refine exE (fun r=>r.1.length=x.2.length∧r.1.sum=V∧(∀ (j:Nat) (hj:j<r.1.length) (hx:j<x.2.length),j+1<x.2.length→m*r.1[j]≤wsum v (pickE g.2.2 x.2[j]))∧(∀ y∈r.1, -1000000≤y∧y≤65536)∧r.2=wsum v (pickE g.2.2 (x.2[x.2.length - 1]'(by omega))))
  (loopN x.2.length (fun i q=>q.2.2.1=(i:Int)∧q.2.2.2.length=i∧q.1+q.2.2.2.sum=V∧(∀ (j:Nat) (hj:j<q.2.2.2.length) (hx:j<x.2.length),j+1<x.2.length→m*q.2.2.2[j]≤wsum v (pickE g.2.2 x.2[j]))∧(∀ y∈q.2.2.2, -1000000≤y∧y≤65536)∧(0<i→∃ h:i - 1<x.2.length,q.2.1=wsum v (pickE g.2.2 x.2[i - 1]))∧(i<x.2.length → -65536*(i:Int)≤q.1∧q.1≤4096)∧(i=x.2.length→q.1=0)) (fun i q hi hq=>?_) (fun q hq=>?_) 0 _ (Nat.zero_le _) ⟨rfl,rfl,by simp,fun j hj=>by simp at hj,fun y hy=>by simp at hy,fun h=>by omega,fun _=>⟨by dsimp only; omega,hVb.2⟩,fun h=>by omega⟩) fun r hr=>?_
 ·obtain ⟨left,sum,i',out⟩:=q
  obtain ⟨rfl,q2,q3,q4,q5,q6,q7,q8⟩:=hq;dsimp only at q2 q3 q4 q5 q6 q7 q8 ⊢;have q7:=q7 hi;have hpp:=hp _ (List.getElem_mem hi);have hb:=hps i hi;rw [if_pos (lt_int hi),ix hi,Option.bind_some,part_loop hg hlen hw.rng hpp.1 (by omega),Option.bind_some,if_pos (by omega)];simp only [jp]
  have ew:IntKind.wrap .i64 (((x.2).length:Int) - 1)=(((x.2).length - 1:Nat):Int):=by rw [w64 (by omega) (by omega)]; omega
  have hfit:∀ y:Int,fits 8 ((out:List Int).length+([y]).length):=fun y=>fits8 (by rw [List.length_singleton]; omega);rw [ew];by_cases hc:(i:Int)=(((x.2).length - 1:Nat):Int)
  ·rw [if_pos hc,if_pos (hfit _)]
   refine .inl ⟨_,rfl,nx (by omega) hi,?_,?_,?_,?_,?_,?_,?_⟩
   ·dsimp only; rw [List.length_append,q2,List.length_singleton]
   ·dsimp only
    rw [w64 (by omega) (by omega),List.sum_append,List.sum_cons,List.sum_nil];omega
   ·dsimp only
    intro j hj hx hjl;rw [List.length_append,List.length_singleton] at hj;rw [List.getElem_append_left (by omega)];exact q4 j (by omega) hx hjl
   ·dsimp only
    intro y hy
    rcases List.mem_append.1 hy with h | h
    ·exact q5 y h
    rw [List.mem_singleton.1 h];omega
   ·intro _
    exact ⟨by omega,by dsimp only; simp only [Nat.add_sub_cancel]⟩
   ·intro h
    omega
   intro _;dsimp only;rw [Int.sub_self];rfl
  have hd:Int.tdiv (wsum v (pickE g.2.2 x.2[i])) m=wsum v (pickE g.2.2 x.2[i]) / m:=Int.tdiv_eq_ediv_of_nonneg hb.1;have hd1:m*(wsum v (pickE g.2.2 x.2[i]) / m)≤wsum v (pickE g.2.2 x.2[i]):=Int.mul_ediv_self_le (by omega);have hd0:0≤wsum v (pickE g.2.2 x.2[i]) / m:=Int.ediv_nonneg hb.1 (by omega);have hd2:wsum v (pickE g.2.2 x.2[i]) / m≤wsum v (pickE g.2.2 x.2[i]):=Int.ediv_le_self _ hb.1;rw [if_neg hc,hd,w64 (by omega) (by omega),if_pos (hfit _)];refine .inl ⟨_,rfl,nx (by omega) hi,?_,?_,?_,?_,?_,?_,?_⟩
  ·dsimp only; rw [List.length_append,q2,List.length_singleton]
  ·dsimp only
   rw [w64 (by omega) (by omega),List.sum_append,List.sum_cons,List.sum_nil];omega
  ·dsimp only
   intro j hj hx hjl;rw [List.length_append,List.length_singleton] at hj;by_cases e:j<out.length
   ·rw [List.getElem_append_left e]
    exact q4 j e hx hjl
   have:j=i:=by omega
   subst this;rw [List.getElem_append_right (by omega)];simp only [q2,Nat.sub_self,List.getElem_cons_zero];exact hd1
  ·dsimp only
   intro y hy
   rcases List.mem_append.1 hy with h | h
   ·exact q5 y h
   rw [List.mem_singleton.1 h];omega
  ·intro _
   exact ⟨by omega,by dsimp only; simp only [Nat.add_sub_cancel]⟩
  ·intro h
   dsimp only;rw [w64 (by omega) (by omega)];omega
  intro h;omega
 ·obtain ⟨left,sum,i',out⟩:=q
  obtain ⟨rfl,q2,q3,q4,q5,q6,q7,q8⟩:=hq;dsimp only at q2 q3 q4 q5 q6 q7 q8 ⊢;rw [if_neg (not_lt_int _)];have hl0:left=0:=q8 rfl;obtain ⟨h6,q6⟩:=q6 (by omega);exact ⟨_,rfl,q2,by dsimp only; omega,q4,q5,q6⟩
 obtain ⟨ws,sum⟩:=r;obtain ⟨r1,r2,r3,r4,r5⟩:=hr;dsimp only at r1 r2 r3 r4 r5 ⊢;simp only [jp]
 have hne:ws≠[]:=fun e=>by rw [e] at r1; simp at r1; omega
 obtain ⟨y,hy,hy1⟩:=min_tot hne (by omega);rw [hy,Option.bind_some];by_cases hc:1≤y
 ·have ew:IntKind.wrap .i64 ((((ws).length:Nat):Int) - 1)=(((ws.length - 1:Nat)):Int):=by rw [w64 (by omega) (by omega)]; omega
  have hlt:ws.length - 1<ws.length:=by omega
  rw [if_pos hc,ew,ix hlt,Option.bind_some,Option.bind_some];have hyb:=r4 _ (List.getElem_mem hlt);have hyp:=hy1 hc _ (List.getElem_mem hlt);have hmb:0≤m*ws[ws.length - 1]∧m*ws[ws.length - 1]≤256*65536:=⟨Int.mul_nonneg (by omega) (by omega),Int.mul_le_mul m2 hyb.2 (by omega) (by omega)⟩;rw [w64 (by omega) (by omega)];refine ⟨_,rfl,fun h=>?_⟩;have h:=of_decide_eq_true h;refine ⟨r1,hy1 hc,r2.trans hVe.symm,fun i h1 h2=>?_⟩;by_cases e:i+1<x.2.length
  ·exact r3 i h1 h2 e
  have e2:i=ws.length - 1:=by omega
  subst e2
  have e3:x.2.length - 1=ws.length - 1:=by omega
  simp only [e3] at r5;rw [← r5];exact h
 rw [if_neg hc];exact ⟨_,rfl,fun h=>by cases h⟩
def SmallR (round:List TStateParts):Prop:=round.length≤8∧∀ x∈round,x.2.length≤6∧∀ p∈x.2,p.length≤16
structure SplitOk (g:Gr) (v:List Int) (m:Int) (x:TStateParts) (ws:List Int):Prop where
 s0:0≤x.1
 s1:x.1<g.2.1
 two:2≤x.2.length
 ne:∀ p∈x.2,p≠[]
 perm:x.2.flatten.Perm (outN g.2.2 x.1)
 eq:m_splitting_weights g v m x=some (ws,true)
 wt:WtO g v m x ws
structure RoundOk (g:Gr) (v:List Int) (m:Int) (round:List TStateParts):Prop where
 base:Base g v m
 each:∀ x∈round,∃ ws,SplitOk g v m x ws
theorem okI_of_perm {l:List Ed} {s:Int} {parts:List (List Int)} (h:parts.flatten.Perm (outN l s)):∀ p∈parts,OkI l s p:=fun p hp k hk =>
 mem_outN.1 (h.mem_iff.1 (List.mem_flatten.2 ⟨p,hp,hk⟩))
theorem Base.wt {g:Gr} {v:List Int} {m:Int} (h:Base g v m):Wt g v m:=⟨h.eig.vg,h.eig.m1,h.eig.m2,h.eig.len,h.eig.rng⟩
theorem round_tot (g:Gr) (v:List Int) (m:Int) (hl:v.length≤9223372036854775807) {round:List TStateParts} (hr:SmallR round):∃ e,m_splitting_Check g v m round=some e∧(e=0→RoundOk g v m round):=by
  unfold m_splitting_Check;obtain ⟨e,h1,h2⟩:=base_tot g v m hl;rw [h1,Option.bind_some];by_cases he:e=0
  · have hb := h2 he
    have hg:=hb.eig.vg;have s1:=hg.s1; have el:=hg.el;have hrl:=hr.1;rw [if_neg (fun h=>h he)];by_cases c0:((round).length:Int)=0
    · rw [if_pos c0]
      exact ⟨5,rfl,by simp⟩
    rw [if_neg c0];refine lpE (fun x:Ou Unit Int=>(∃ c,x=Ou.ret c∧c≠0)∨x=Ou.go ()∧∀ x∈round,∃ ws,SplitOk g v m x ws) (loopN round.length (fun i s=>s=(i:Int)∧∀ (j:Nat) (hj:j<round.length),j<i→∃ ws,SplitOk g v m round[j] ws) (fun i s hi hs=>?_) (fun s hs=>?_) 0 _ (Nat.zero_le _) ⟨rfl,fun j hj h=>by omega⟩) fun x hx=>?_
    · obtain ⟨rfl,hno⟩:=hs
      have hsm:=hr.2 _ (List.getElem_mem hi);rw [if_pos (lt_int hi),ix hi,Option.bind_some];simp only [jp]
      have key : ∀ b:Bool,(0≤round[i].1∧round[i].1<g.2.1)→(∃ s',(if b=true then some (Stp.exit (Ou.ret 10)) else
             (m_graph_Out g round[i].1).bind fun x16 =>
              (m_splitting_divides round[i].2 x16.1).bind fun x18 =>
              if (!x18)=true then
               some (Stp.exit (Ou.ret 11))
              else
               (m_splitting_weights g v m round[i]).bind fun x20 =>
               if (!x20.2)=true then
                some (Stp.exit (Ou.ret 16))
               else
                some (Stp.next (IntKind.wrap .i64 ((i:Int)+1))):Option (Stp Int (Ou Unit Int)))=some (.next s')∧s'=((i+1:Nat):Int)∧∀ (j:Nat) (hj:j<round.length),j<i+1→∃ ws,SplitOk g v m round[j] ws) ∨
           ∃ x, (if b=true then some (Stp.exit (Ou.ret 10)) else
             (m_graph_Out g round[i].1).bind fun x16 =>
              (m_splitting_divides round[i].2 x16.1).bind fun x18 =>
              if (!x18)=true then
               some (Stp.exit (Ou.ret 11))
              else
               (m_splitting_weights g v m round[i]).bind fun x20 =>
               if (!x20.2)=true then
                some (Stp.exit (Ou.ret 16))
               else
                some (Stp.next (IntKind.wrap .i64 ((i:Int)+1))):Option (Stp Int (Ou Unit Int)))=some (.exit x)∧((∃ c,x=Ou.ret c∧c≠0)∨x=Ou.go ()∧∀ x∈round,∃ ws,SplitOk g v m x ws):=by
        intro b hs
        cases b with
        | true=>rw [if_pos rfl]; exact .inr ⟨_,rfl,.inl ⟨10,rfl,by decide⟩⟩
        | false =>
          rw [if_neg (by decide),out_eq hg hs.1 hs.2,Option.bind_some];obtain ⟨b,hb1,hb2⟩:=divides_tot (parts:=round[i].2) (out:=outN g.2.2 round[i].1) hsm.1 hsm.2 (Nat.le_trans (outN_len _ _) el);rw [hb1,Option.bind_some]
          cases b with
          | false=>exact .inr ⟨_,rfl,.inl ⟨11,rfl,by decide⟩⟩
          | true =>
            obtain ⟨d1,d2,d3⟩:=hb2 rfl;obtain ⟨r,hr1,hr2⟩:=weights_tot hb.wt (x:=round[i]) hs.1 hs.2 d1 hsm.1 (fun p hp=>⟨okI_of_perm d3 p hp,hsm.2 p hp⟩);simp only [Bool.not_true,Bool.false_eq_true,if_false];rw [hr1,Option.bind_some];obtain ⟨ws,ok⟩:=r
            cases ok with
            | false=>exact .inr ⟨_,rfl,.inl ⟨16,rfl,by decide⟩⟩
            | true =>
              simp only [Bool.not_true,Bool.false_eq_true,if_false];refine .inl ⟨_,rfl,nx (by omega) hi,fun j hj hji=>?_⟩;by_cases e:j=i
              · subst e
                exact ⟨ws,hs.1,hs.2,d1,d2,d3,hr1,hr2 rfl⟩
              exact hno j hj (by omega)
      by_cases c1:round[i].1<0
      · rw [if_pos c1,if_pos trivial]
        exact .inr ⟨_,rfl,.inl ⟨25,rfl,by decide⟩⟩
      rw [if_neg c1];by_cases c2:g.2.1≤round[i].1
      · rw [decide_eq_true c2,if_pos rfl]
        exact .inr ⟨_,rfl,.inl ⟨25,rfl,by decide⟩⟩
      rw [decide_eq_false c2,if_neg (by decide)];by_cases c3:0<(i:Int)
      · have ew:IntKind.wrap .i64 ((i:Int) - 1)=((i - 1:Nat):Int):=by rw [w64 (by omega) (by omega)]; omega
        rw [if_pos c3,ew,ix (by omega),Option.bind_some];exact key _ ⟨by omega,by omega⟩
      rw [if_neg c3];exact key false ⟨by omega,by omega⟩
    · obtain ⟨rfl,hno⟩:=hs
      rw [if_neg (not_lt_int _)];refine ⟨_,rfl,.inr ⟨rfl,fun x hx=>?_⟩⟩;obtain ⟨j,hj,rfl⟩:=List.mem_iff_getElem.1 hx;exact hno j hj hj
    rcases hx with ⟨c,rfl,hc⟩ | ⟨rfl,h⟩
    · exact ⟨c,rfl,fun h=>absurd h hc⟩
    exact ⟨0,rfl,fun _=>⟨hb,h⟩⟩
  rw [if_pos he];exact ⟨e,rfl,fun h=>absurd h he⟩
structure PW (g:Gr) (v:List Int) (m:Int) (s:Nat) (P:List (List Int)) (W:List Int):Prop where
 len:W.length=P.length
 ne:1≤P.length
 six:P.length≤6
 ok:∀ p∈P,p.length≤1024
 perm:P.flatten.Perm (outN g.2.2 (s:Int))
 pos:∀ w∈W,1≤w
 sum:W.sum=v.getD s 0
 app:∀ (i:Nat) (h1:i<W.length) (h2:i<P.length),m*W[i]≤wsum v (pickE g.2.2 P[i])
theorem pickE_out (l:List Ed) (s:Int):pickE l (outN l s)=from' l s:=by
 unfold pickE outN from';rw [List.map_map]
 have h1:(l.zipIdx.filter fun p=>decide (p.1.1=s)).map ((fun k:Int=>l.getD k.toNat (0,0,0)) ∘ fun p=>((p.2:Nat):Int))=(l.zipIdx.filter fun p=>decide (p.1.1=s)).map (·.1):=by
  refine List.map_congr_left fun p hp=>?_;obtain ⟨h2,_⟩:=List.mem_filter.1 hp;have h3:=List.mk_mem_zipIdx_iff_getElem?.1 (show (p.1,p.2)∈l.zipIdx from h2);obtain ⟨h4,h5⟩:=List.getElem?_eq_some_iff.1 h3;simp only [Function.comp,Int.toNat_natCast];rw [getD_at h4,h5]
 rw [h1];have h6:(fun p:Ed × Nat=>decide (p.1.1=s))=(fun x:Ed=>decide (x.1=s)) ∘ Prod.fst:=rfl;rw [h6,← List.filter_map,List.zipIdx_map_fst]
theorem PW.whole {g:Gr} {v:List Int} {m:Int} (h:Base g v m) {s:Nat} (hs:s<v.length):PW g v m s [outN g.2.2 (s:Int)] [v.getD s 0] where
 len:=rfl
 ne:=Nat.le_refl _
 six:=by simp
 ok:=fun p hp=>by
  rw [List.mem_singleton.1 hp];exact Nat.le_trans (outN_len _ _) h.eig.vg.el
 perm:=by simp
 pos:=fun w hw=>by
  rw [List.mem_singleton.1 hw];exact h.pos _ (getD_memI hs)
 sum:=by simp
 app:=fun i h1 h2=>by
  have:i=0:=by simp at h1; omega
  subst this;simp only [List.getElem_cons_zero];rw [pickE_out,getD_at hs];exact h.eig.app s hs
theorem PW.split {g:Gr} {v:List Int} {m:Int} {round:List TStateParts} (hr:SmallR round) {x:TStateParts} (hx:x∈round) {ws:List Int} (h:SplitOk g v m x ws) {s:Nat} (hs:x.1=(s:Int)):PW g v m s x.2 ws where
 len:=h.wt.len
 ne:=by have:=h.two; omega
 six:=(hr.2 x hx).1
 ok:=fun p hp=>Nat.le_trans ((hr.2 x hx).2 p hp) (by decide)
 perm:=by rw [← hs]; exact h.perm
 pos:=h.wt.pos
 sum:=by have:=h.wt.sum; rw [hs,Int.toNat_natCast] at this; exact this
 app:=h.wt.app
theorem set_loop {p ow : List Int} (hp:∀ k∈p,∃ n:Nat,k=(n:Int)∧n<ow.length) (hpl:p.length≤1024) (c:Int) :
    ∃ ow', loopW (S := Int × (List Int)) (X:=(List Int)) (fun a31 =>
                       if a31.1<((p).length:Int) then
                        (idx p a31.1).bind fun x35 =>
                        (idx a31.2 x35).bind fun x37 =>
                        some (Stp.next (IntKind.wrap .i64 (a31.1+1),(a31.2).set (x35).toNat c))
                       else
                        some (Stp.exit a31.2)) (0,ow)=some ow'∧ow'.length=ow.length∧∀ n:Nat,n<ow.length→ow'[n]?=if (n:Int)∈p then some c else ow[n]?:=by
  refine loopN p.length (fun i s=>s.1=(i:Int)∧s.2.length=ow.length∧∀ n:Nat,n<ow.length→s.2[n]?=if (n:Int)∈p.take i then some c else ow[n]?) (fun i s hi hs=>?_) (fun s hs=>?_) 0 _ (Nat.zero_le _) ⟨rfl,rfl,fun n hn=>by simp⟩
  · obtain ⟨a,o⟩:=s
    obtain ⟨rfl,h1,h2⟩:=hs;dsimp only at h1 h2 ⊢;obtain ⟨k,hk,hkl⟩:=hp _ (List.getElem_mem hi);rw [if_pos (lt_int hi),ix hi,Option.bind_some,hk,ix (show k<o.length by omega),Option.bind_some];refine .inl ⟨_,rfl,nx (by omega) hi,by dsimp only; rw [List.length_set]; exact h1,fun n hn=>?_⟩;dsimp only
    have hm:(n:Int)∈p.take (i+1)↔(n:Int)∈p.take i∨(n:Int)=(k:Int):=by
      rw [← List.take_append_getElem hi,List.mem_append,List.mem_singleton,hk]
    rw [Int.toNat_natCast,List.getElem?_set];by_cases e:k=n
    · subst e
      rw [if_pos rfl,if_pos (by omega),if_pos (hm.2 (.inr rfl))]
    rw [if_neg e,h2 n hn];by_cases h:(n:Int)∈p.take i
    · rw [if_pos h,if_pos (hm.2 (.inl h))]
    rw [if_neg h,if_neg (fun h'=>(hm.1 h').elim h (fun x=>e (by omega)))]
  obtain ⟨a,o⟩:=s;obtain ⟨rfl,h1,h2⟩:=hs;dsimp only at h1 h2 ⊢;rw [if_neg (not_lt_int _)];rw [List.take_length] at h2;exact ⟨_,rfl,h1,h2⟩
theorem replicate_succ' {α:Type} (n:Nat) (a:α):List.replicate (n+1) a=List.replicate n a++[a]:=by
 rw [List.replicate_succ']
theorem kids_loop {P : List (List Int)} {W ow pa he:List Int} {s:Int} (hW:W.length=P.length) (h6:P.length≤6) (hP:∀ p∈P,p.length≤1024) (hv:∀ p∈P,∀ k∈p,∃ n:Nat,k=(n:Int)∧n<ow.length) (hnd:P.flatten.Nodup) (hpa:pa.length≤1000) (hhe:he.length=pa.length) :
    ∃ r, loopW (S := Int × (List Int) × (List Int) × (List Int) × (List Int)) (X:=(List Int) × (List Int) × (List Int) × (List Int)) (fun a25 =>
                  if a25.1<((P).length:Int) then
                   (idx P a25.1).bind fun x29 =>
                   (loopW (S:=Int × (List Int)) (X:=(List Int)) (fun a31 =>
                       if a31.1<((x29).length:Int) then
                        (idx x29 a31.1).bind fun x35 =>
                        (idx a31.2 x35).bind fun x37 =>
                        some (Stp.next (IntKind.wrap .i64 (a31.1+1),(a31.2).set (x35).toNat (((a25.2.2.1).length:Nat):Int)))
                       else
                        some (Stp.exit a31.2)) (0,a25.2.1)).bind fun a39 =>
                   if fits 8 ((a25.2.2.2.2:List Int).length+([(((a25.2.2.1).length:Nat):Int)]).length) then
                    if fits 8 ((a25.2.2.1:List Int).length+([s]).length) then
                     (idx W a25.1).bind fun x420701 =>
                     if fits 8 ((a25.2.2.2.1:List Int).length+([x420701]).length) then
                      some (Stp.next (IntKind.wrap .i64 (a25.1+1),a39,a25.2.2.1++[s],a25.2.2.2.1++[x420701],a25.2.2.2.2++[(((a25.2.2.1).length:Nat):Int)]))
                     else none
                    else none
                   else none
                  else
                   some (Stp.exit (a25.2.1,a25.2.2.1,a25.2.2.2.1,a25.2.2.2.2))) (0,ow,pa,he,([]:List (Int)))=some r ∧
      r.2=(pa++List.replicate P.length s,he++W,(List.range P.length).map fun (j:Nat)=>((pa.length+j:Nat):Int))∧r.1.length=ow.length∧(∀ (j:Nat) (hj:j<P.length) (n:Nat),(n:Int)∈P[j]→r.1[n]?=some ((pa.length+j:Nat):Int))∧∀ n:Nat,n<ow.length→(∀ p∈P,(n:Int) ∉ p)→r.1[n]?=ow[n]?:=by
  refine loopN P.length (fun i q=>q.1=(i:Int)∧q.2.2=(pa++List.replicate i s,he++W.take i,(List.range i).map fun (j:Nat)=>((pa.length+j:Nat):Int))∧q.2.1.length=ow.length∧(∀ (j:Nat) (hj:j<P.length) (n:Nat),j<i→(n:Int)∈P[j]→q.2.1[n]?=some ((pa.length+j:Nat):Int))∧∀ n:Nat,n<ow.length→(∀ (j:Nat) (hj:j<P.length),j<i→(n:Int) ∉ P[j])→q.2.1[n]?=ow[n]?) (fun i q hi hq=>?_) (fun q hq=>?_) 0 _ (Nat.zero_le _) ⟨rfl,by simp,rfl,fun j hj n h=>by omega,fun n hn h=>rfl⟩
  · obtain ⟨a,o,pa',he',row⟩:=q
    obtain ⟨rfl,h1,h2,h3,h4⟩:=hq;simp only [Prod.mk.injEq] at h1;obtain ⟨rfl,rfl,rfl⟩:=h1;dsimp only at h2 h3 h4 ⊢
    obtain ⟨o',ho,ho1,ho2⟩:=set_loop (p:=P[i]) (ow:=o) (fun k hk=>by
      obtain ⟨n,e,hn⟩:=hv _ (List.getElem_mem hi) k hk
      exact ⟨n,e,by omega⟩) (hP _ (List.getElem_mem hi)) ((((pa++List.replicate i s).length:Nat)):Int)
    have el:(pa++List.replicate i s).length=pa.length+i:=by rw [List.length_append,List.length_replicate]
    rw [if_pos (lt_int hi),ix hi,Option.bind_some,ho,Option.bind_some,if_pos (fits8 (by rw [List.length_map,List.length_range,List.length_singleton]; omega)),if_pos (fits8 (by rw [el,List.length_singleton]; omega)),ix (show i<W.length by omega),Option.bind_some,if_pos (fits8 (by rw [List.length_append,List.length_take,List.length_singleton]; omega))]
    have hdis:∀ (j k:Nat) (hj:j<P.length) (hk:k<P.length),j<k→∀ y,y∈P[j]→y ∉ P[k]:=fun j k hj hk hjk y hy hy2 =>
      List.pairwise_iff_getElem.1 (List.pairwise_flatten.1 hnd).2 j k hj hk hjk y hy y hy2 rfl
    refine .inl ⟨_,rfl,nx (by omega) hi,?_,by dsimp only; omega,fun j hj n hji hn=>?_,fun n hn hno=>?_⟩
    · dsimp only
      rw [List.replicate_succ',List.append_assoc,List.append_assoc,List.take_append_getElem (by omega),List.range_succ,List.map_append,List.map_singleton,el]
    · dsimp only
      have hnl:n<o.length:=by
        obtain ⟨n',e,hn'⟩:=hv _ (List.getElem_mem hj) _ hn;omega
      rw [ho2 n hnl];by_cases e:j=i
      · subst e
        rw [if_pos hn,el]
      rw [if_neg (hdis j i hj hi (by omega) _ hn)];exact h3 j hj n (by omega) hn
    dsimp only;rw [ho2 n (by omega),if_neg (hno i hi (by omega))];exact h4 n hn fun j hj hji=>hno j hj (by omega)
  obtain ⟨a,o,pa',he',row⟩:=q;obtain ⟨rfl,h1,h2,h3,h4⟩:=hq;simp only [Prod.mk.injEq] at h1;obtain ⟨rfl,rfl,rfl⟩:=h1;dsimp only at h2 h3 h4 ⊢;rw [if_neg (not_lt_int _)];refine ⟨_,rfl,?_,h2,fun j hj n hn=>h3 j hj n hj hn,fun n hn hno=>h4 n hn fun j hj _=>hno _ (List.getElem_mem hj)⟩;rw [← hW,List.take_length]
def ownE (l:List Ed) (ow:List Int) (c:Nat) (t:Int):List Ed:=(l.zipIdx.filter fun p=>decide (p.1.1=t∧ow[p.2]?=some (c:Int))).map (·.1)
structure App (g:Gr) (v:List Int) (m:Int) (s:Nat) (D:List (List Int)) (ow pa he:List Int):Prop where
 dl:D.length=s
 ol:ow.length=g.2.2.length
 hl:he.length=pa.length
 bd:pa.length≤6*s
 par:∀ (c:Nat) (t:Int),pa[c]?=some t→0≤t∧t<(s:Int)
 kid:∀ (t:Nat) (ht:t<D.length),(∀ y∈D[t],∃ c:Nat,y=(c:Int))∧D[t].Nodup∧D[t]≠[]∧∀ c:Nat,(c:Int)∈D[t]↔pa[c]?=some (t:Int)
 own:∀ (n:Nat) (x:Ed),g.2.2[n]?=some x→x.1<(s:Int)→∃ c:Nat,ow[n]?=some (c:Int)∧pa[c]?=some x.1
 hpos:∀ w∈he,1≤w
 hsum:∀ (t:Nat) (ht:t<D.length),(D[t].map fun c=>he.getD c.toNat 0).sum=v.getD t 0
 happ:∀ (c:Nat) (t:Int),pa[c]?=some t→m*he.getD c 0≤wsum v (ownE g.2.2 ow c t)
theorem App.init {g:Gr} (hg:VG g) (v:List Int) (m:Int):App g v m 0 [] (List.replicate g.2.2.length 0) [] [] where
 dl:=rfl
 ol:=List.length_replicate
 hl:=rfl
 bd:=by simp
 par:=fun c t h=>by simp at h
 kid:=fun t ht=>by simp at ht
 own:=fun n x h hx=>by
  obtain ⟨hn,e⟩:=List.getElem?_eq_some_iff.1 h;have:=hg.ed x (e ▸ List.getElem_mem hn);omega
 hpos:=fun w hw=>by cases hw
 hsum:=fun t ht=>by simp at ht
 happ:=fun c t h=>by simp at h
def idxQ (l:List Ed) (q:Ed × Nat→Bool):List Int:=(l.zipIdx.filter q).map fun p=>((p.2:Nat):Int)
theorem mem_idxQ {l:List Ed} {q:Ed × Nat→Bool} {i:Int}:i∈idxQ l q↔∃ (n:Nat) (x:Ed),i=(n:Int)∧l[n]?=some x∧q (x,n)=true:=by
 unfold idxQ;rw [List.mem_map];constructor
 ·rintro ⟨⟨x,n⟩,h,rfl⟩
  obtain ⟨h1,h2⟩:=List.mem_filter.1 h;exact ⟨n,x,rfl,List.mk_mem_zipIdx_iff_getElem?.1 h1,h2⟩
 rintro ⟨n,x,rfl,h1,h2⟩
 exact ⟨(x,n),List.mem_filter.2 ⟨List.mk_mem_zipIdx_iff_getElem?.2 h1,h2⟩,rfl⟩
theorem idxQ_nodup (l:List Ed) (q:Ed × Nat→Bool):(idxQ l q).Nodup:=by
 unfold idxQ
 have h0:(l.zipIdx.map (·.2)).Nodup:=by
  rw [List.zipIdx_map_snd];exact List.nodup_range'
 have h1:((l.zipIdx.filter q).map (·.2)).Nodup:=(List.filter_sublist.map _).nodup h0
 have e:((l.zipIdx.filter q).map fun p=>((p.2:Nat):Int))=((l.zipIdx.filter q).map (·.2)).map (fun (n:Nat)=>(n:Int)):=by rw [List.map_map]; rfl
 rw [e];exact h1.map (fun n:Nat=>(n:Int)) fun a b hab h=>hab (Int.ofNat.inj h)
theorem pickE_idxQ (l:List Ed) (q:Ed × Nat→Bool):pickE l (idxQ l q)=(l.zipIdx.filter q).map (·.1):=by
 unfold pickE idxQ;rw [List.map_map];refine List.map_congr_left fun p hp=>?_;obtain ⟨h2,_⟩:=List.mem_filter.1 hp;have h3:=List.mk_mem_zipIdx_iff_getElem?.1 (show (p.1,p.2)∈l.zipIdx from h2);obtain ⟨h4,h5⟩:=List.getElem?_eq_some_iff.1 h3;simp only [Function.comp,Int.toNat_natCast];rw [getD_at h4,h5]
theorem ownE_perm {l:List Ed} {ow:List Int} {c:Nat} {t:Int} {p:List Int} (hp:p.Nodup) (h:∀ i:Int,i∈p↔∃ (n:Nat) (x:Ed),i=(n:Int)∧l[n]?=some x∧x.1=t∧ow[n]?=some (c:Int)) (v:List Int):wsum v (ownE l ow c t)=wsum v (pickE l p):=by
 unfold ownE;rw [← pickE_idxQ];refine wsum_perm (List.Perm.map _ ((List.perm_ext_iff_of_nodup (idxQ_nodup _ _) hp).2 fun i=>?_));rw [mem_idxQ,h];constructor
 ·rintro ⟨n,x,rfl,h1,h2⟩
  have h2:=of_decide_eq_true h2;exact ⟨n,x,rfl,h1,h2⟩
 rintro ⟨n,x,rfl,h1,h2,h3⟩
 exact ⟨n,x,rfl,h1,decide_eq_true ⟨h2,h3⟩⟩
theorem rep_at {pa:List Int} {k:Nat} {s:Int} {c:Nat} {t:Int}:(pa++List.replicate k s)[c]?=some t↔pa[c]?=some t∨pa.length≤c∧c<pa.length+k∧t=s:=by
 rw [List.getElem?_append];by_cases h:c<pa.length
 ·rw [if_pos h]
  constructor
  ·exact .inl
  rintro (h1 | ⟨h1,_⟩)
  ·exact h1
  omega
 rw [if_neg h,List.getElem?_replicate];by_cases h2:c - pa.length<k
 ·rw [if_pos h2]
  constructor
  ·intro h3
   exact .inr ⟨by omega,by omega,(Option.some.inj h3).symm⟩
  rintro (h1 | ⟨_,_,rfl⟩)
  ·rw [List.getElem?_eq_none (by omega)] at h1; cases h1
  rfl
 rw [if_neg h2];constructor
 ·intro h3; cases h3
 rintro (h1 | ⟨_,h1,_⟩)
 ·rw [List.getElem?_eq_none (by omega)] at h1; cases h1
 omega
theorem App.step {g:Gr} {v:List Int} {m:Int} {s:Nat} {D:List (List Int)} {ow pa he:List Int} (hg:VG g) (hsv:s<v.length) (A:App g v m s D ow pa he) {P:List (List Int)} {W:List Int} (pw:PW g v m s P W) {ow':List Int}
  (hl:ow'.length=ow.length) (h1:∀ (j:Nat) (hj:j<P.length) (n:Nat),(n:Int)∈P[j]→ow'[n]?=some ((pa.length+j:Nat):Int)) (h2:∀ n:Nat,n<ow.length→(∀ p∈P,(n:Int) ∉ p)→ow'[n]?=ow[n]?) :
  App g v m (s+1) (D++[(List.range P.length).map fun (j:Nat)=>((pa.length+j:Nat):Int)]) ow' (pa++List.replicate P.length (s:Int)) (he++W):=by
 have hmemP:∀ (n:Nat) (x:Ed),g.2.2[n]?=some x→((∃ p∈P,(n:Int)∈p)↔x.1=(s:Int)):=fun n x hx=>by
  have hf:(n:Int)∈P.flatten↔(n:Int)∈outN g.2.2 (s:Int):=pw.perm.mem_iff;rw [List.mem_flatten] at hf;rw [hf,mem_outN];constructor
  ·rintro ⟨n',x',e,h3,h4⟩
   have:n=n':=by omega
   subst this;rw [hx] at h3;cases h3;exact h4
  intro h4;exact ⟨n,x,rfl,hx,h4⟩
 have hnd:P.flatten.Nodup:=pw.perm.nodup_iff.2 (outN_nodup _ _);have hwl:=pw.len;have hhl:=A.hl
 have hold:∀ (n:Nat) (x:Ed),g.2.2[n]?=some x→x.1≠(s:Int)→ow'[n]?=ow[n]?:=fun n x hx hne=>by
  have hn:=(List.getElem?_eq_some_iff.1 hx).1;have hol:=A.ol;refine h2 n (by omega) fun p hp hin=>hne ((hmemP n x hx).1 ⟨p,hp,hin⟩)
 refine ⟨by rw [List.length_append,A.dl]; rfl,hl.trans A.ol,by rw [List.length_append,List.length_append,List.length_replicate,hhl,hwl],?_,fun c t hc=>?_,fun t ht=>?_,fun n x hx hxs=>?_,fun w hw=>?_,fun t ht=>?_,fun c t hc=>?_⟩
 ·have:=A.bd; have:=pw.six
  rw [List.length_append,List.length_replicate];omega
 ·rcases rep_at.1 hc with h | ⟨_,_,rfl⟩
  ·have:=A.par c t h
   omega
  omega
 ·by_cases e:t<D.length
  ·rw [List.getElem_append_left e]
   obtain ⟨k1,k2,k3,k4⟩:=A.kid t e;refine ⟨k1,k2,k3,fun c=>?_⟩;rw [k4 c,rep_at];have hdl:=A.dl;constructor
   ·exact .inl
   rintro (h | ⟨_,_,h⟩)
   ·exact h
   omega
  have hdl:=A.dl
  have et:t=D.length:=by rw [List.length_append,List.length_singleton] at ht; omega
  subst et;rw [List.getElem_append_right (by omega)];simp only [Nat.sub_self,List.getElem_cons_zero];refine ⟨fun y hy=>?_,?_,fun h=>?_,fun c=>?_⟩
  ·obtain ⟨j,_,rfl⟩:=List.mem_map.1 hy
   exact ⟨_,rfl⟩
  ·exact List.nodup_range.map (fun j:Nat=>((pa.length+j:Nat):Int)) fun a b hab h=>hab (by omega)
  ·have:=pw.ne
   rw [List.map_eq_nil_iff,List.range_eq_nil] at h;omega
  rw [rep_at,hdl,List.mem_map];constructor
  ·rintro ⟨j,hj,e⟩
   have:=List.mem_range.1 hj;exact .inr ⟨by omega,by omega,rfl⟩
  rintro (h | ⟨h3,h4,_⟩)
  ·have:=A.par c _ h
   omega
  exact ⟨c - pa.length,List.mem_range.2 (by omega),by omega⟩
 ·by_cases e:x.1=(s:Int)
  ·obtain ⟨p,hp,hin⟩:=(hmemP n x hx).2 e
   obtain ⟨j,hj,rfl⟩:=List.mem_iff_getElem.1 hp;exact ⟨pa.length+j,h1 j hj n hin,rep_at.2 (.inr ⟨by omega,by omega,e⟩)⟩
  obtain ⟨c,h3,h4⟩:=A.own n x hx (by omega);exact ⟨c,by rw [hold n x hx e]; exact h3,rep_at.2 (.inl h4)⟩
 ·rcases List.mem_append.1 hw with h | h
  ·exact A.hpos w h
  exact pw.pos w h
 ·by_cases e:t<D.length
  ·rw [List.getElem_append_left e]
   rw [← A.hsum t e]
   congr 1
   refine List.map_congr_left fun c hc=>?_;obtain ⟨k1,k2,k3,k4⟩:=A.kid t e;obtain ⟨c',rfl⟩:=k1 c hc;have hlt:=(List.getElem?_eq_some_iff.1 ((k4 c').1 hc)).1;rw [Int.toNat_natCast,List.getD_eq_getElem?_getD,List.getD_eq_getElem?_getD,List.getElem?_append_left (by omega)]
  have hdl:=A.dl
  have et:t=D.length:=by rw [List.length_append,List.length_singleton] at ht; omega
  subst et;rw [List.getElem_append_right (by omega)];simp only [Nat.sub_self,List.getElem_cons_zero];rw [hdl,← pw.sum,List.map_map]
  congr 1
  refine List.ext_getElem (by simp [hwl]) fun j h3 h4=>?_;simp only [List.getElem_map,List.getElem_range,Function.comp,Int.toNat_natCast];rw [List.getD_eq_getElem?_getD,List.getElem?_append_right (by omega),show pa.length+j - he.length=j by omega,List.getElem?_eq_getElem h4];rfl
 rcases rep_at.1 hc with h | ⟨h3,h4,rfl⟩
 ·have hlt:=(List.getElem?_eq_some_iff.1 h).1
  have ht:=A.par c t h;rw [List.getD_eq_getElem?_getD,List.getElem?_append_left (by omega),← List.getD_eq_getElem?_getD]
  have:ownE g.2.2 ow' c t=ownE g.2.2 ow c t:=by
   unfold ownE
   congr 1
   refine List.filter_congr fun p hp=>?_;have hx:=List.mk_mem_zipIdx_iff_getElem?.1 (show (p.1,p.2)∈g.2.2.zipIdx from hp);by_cases e:p.1.1=t
   ·rw [hold p.2 p.1 hx (by omega)]
   simp [e]
  rw [this];exact A.happ c t h
 obtain ⟨j,rfl⟩:∃ j,c=pa.length+j:=⟨c - pa.length,by omega⟩
 have hj:j<P.length:=by omega
 have hjw:j<W.length:=by omega
 have e1:(he++W).getD (pa.length+j) 0=W[j]:=by
  rw [List.getD_eq_getElem?_getD,List.getElem?_append_right (by omega),show pa.length+j - he.length=j by omega,List.getElem?_eq_getElem hjw];rfl
 rw [e1,ownE_perm (p:=P[j]) ((List.pairwise_flatten.1 hnd).1 _ (List.getElem_mem hj)) (fun i=>?_)]
 ·exact pw.app j hjw hj
 constructor
 ·intro hi
  have hf:i∈outN g.2.2 (s:Int):=pw.perm.mem_iff.1 (List.mem_flatten.2 ⟨_,List.getElem_mem hj,hi⟩);obtain ⟨n,x,rfl,h5,h6⟩:=mem_outN.1 hf;exact ⟨n,x,rfl,h5,h6,h1 j hj n hi⟩
 rintro ⟨n,x,rfl,h5,h6,h7⟩
 obtain ⟨p,hp,hin⟩:=(hmemP n x h5).2 h6;obtain ⟨k,hk,rfl⟩:=List.mem_iff_getElem.1 hp;have h8:=h1 k hk n hin;rw [h7] at h8
 have:j=k:=by have:=Option.some.inj h8; omega
 subst this;exact hin
theorem find_spl (round:List TStateParts) (s:Int) (hl:round.length≤8) :
    ∃ x, loopW (S := Int) (X:=Ou (Unit) (Int)) (fun a52 =>
              if a52<((round).length:Int) then
               (idx round a52).bind fun x56 =>
                 if x56.1=s then
                  some (Stp.exit (Ou.ret a52))
                 else
                  some (Stp.next (IntKind.wrap .i64 (a52+1)))
              else
               some (Stp.exit (Ou.go ()))) 0=some x∧(x=Ou.go ()∨∃ (k:Nat) (h:k<round.length),x=Ou.ret (k:Int)∧round[k].1=s):=by
  refine loopN round.length (fun i q=>q=(i:Int)) (fun i q hi hq=>?_) (fun q hq=>?_) 0 _ (Nat.zero_le _) rfl
  · subst hq
    rw [if_pos (lt_int hi),ix hi,Option.bind_some];by_cases h:round[i].1=s
    · rw [if_pos h]
      exact .inr ⟨_,rfl,.inr ⟨i,hi,rfl,h⟩⟩
    rw [if_neg h];exact .inl ⟨_,rfl,nx (by omega) hi⟩
  subst hq;rw [if_neg (not_lt_int _)];exact ⟨_,rfl,.inl rfl⟩
theorem nodupP {P:List (List Int)} {g:Gr} {s:Int} (h:P.flatten.Perm (outN g.2.2 s)):P.flatten.Nodup:=h.nodup_iff.2 (outN_nodup _ _)
def newOf (D:List (List Int)) (ow:List Int) (p:Ed × Nat):List Ed:=(D.getD p.1.2.2.toNat []).map fun c=>(ow.getD p.2 0,p.1.2.1,c)
def newL (D:List (List Int)) (ow:List Int) (l:List Ed):List Ed:=l.zipIdx.flatMap (newOf D ow)
theorem newL_take {D:List (List Int)} {ow:List Int} {l:List Ed} {i:Nat} (h:i<l.length):newL D ow (l.take (i+1))=newL D ow (l.take i)++newOf D ow (l[i],i):=by
 unfold newL;rw [← List.take_append_getElem h,List.zipIdx_append,List.flatMap_append]
 congr 1
 simp [Nat.min_eq_left (Nat.le_of_lt h)]
theorem kids_len {pa:List Int} {l:List Int} (hn:l.Nodup) (h:∀ y∈l,∃ c:Nat,y=(c:Int)∧c<pa.length):l.length≤pa.length:=by
 have:=nodup_len (m:=(List.range pa.length).map fun (n:Nat)=>(n:Int)) hn (fun y hy=>by
  obtain ⟨c,rfl,hc⟩:=h y hy
  exact List.mem_map.2 ⟨c,List.mem_range.2 hc,rfl⟩)
 rwa [List.length_map,List.length_range] at this
theorem compact_ok {l:List Ed} (hl:l.length≤9223372036854775807) (h:∀ (i:Nat) (hi:i+1<l.length),l[i+1]≠l[i]):m_slices_Compact_Lapi_Edge_api_Edge l=some l:=by
 unfold m_slices_Compact_Lapi_Edge_api_Edge;by_cases c:((l).length:Int)<2
 ·rw [if_pos c]
 rw [if_neg c];refine bindL (x:=()) (loop_is (fun i=>((i+1:Nat):Int)) (l.length - 1) () (fun i hi=>?_) ?_ rfl) rfl
 ·have h1:i+1<l.length:=by omega
  have ew:IntKind.wrap .i64 (((i+1:Nat):Int) - 1)=((i:Nat):Int):=by rw [w64 (by omega) (by omega)]; omega
  rw [if_pos (lt_int h1),ix h1,Option.bind_some,ew,ix (by omega),Option.bind_some,if_neg (h i h1),nx hl h1]
 rw [if_neg (by omega)]
theorem sortEd_ne {l:List Ed} (h:l.Nodup):∀ (i:Nat) (hi:i+1<(sortEd l).length),(sortEd l)[i+1]≠(sortEd l)[i]:=fun i hi e=>by
 have hn:(sortEd l).Nodup:=(sortEd_perm l).nodup_iff.2 h;exact List.pairwise_iff_getElem.1 hn i (i+1) (by omega) hi (by omega) e.symm
structure Applied (g:Gr) (v:List Int) (m:Int) (h:Gr) (he pa:List Int):Prop where
 vg:VG h
 spl:Spl g h pa
 eig:Eig h he m
theorem make_tot {lb n:Int} {l:List Ed} (hl:l.length≤1000000) (hn:l.Nodup):∃ r,m_graph_Make lb n l=some r∧(r.2=0→r.1=(lb,n,sortEd l)∧VG (lb,n,sortEd l)):=by
 unfold m_graph_Make
 have hc:m_slices_Clone_Lapi_Edge_api_Edge l=some l:=by unfold m_slices_Clone_Lapi_Edge_api_Edge; rw [if_pos (by omega)]
 have hs:(sortEd l).length=l.length:=sortEd_len l;rw [hc,Option.bind_some,if_pos (by omega),compact_ok (by omega) (sortEd_ne hn),Option.bind_some];obtain ⟨e,h1,h2⟩:=check_tot (lb,n,sortEd l);rw [h1,Option.bind_some];by_cases h:e=0
 ·rw [if_neg (fun x=>x h)]
  exact ⟨_,rfl,fun _=>⟨rfl,h2.1 h⟩⟩
 rw [if_pos h];exact ⟨_,rfl,fun x=>absurd x h⟩
section
variable {g:Gr} {v:List Int} {m:Int} {n:Nat} {D:List (List Int)} {ow pa he:List Int}
theorem App.kidAt (A:App g v m n D ow pa he) {t:Nat} (ht:t<n):∃ h:t<D.length,D.getD t []=D[t]:=by
 have hd:=A.dl;exact ⟨by omega,getD_at (by omega) []⟩
theorem App.kidLt (A:App g v m n D ow pa he) {t:Nat} (ht:t<n):∀ y∈D.getD t [],∃ c:Nat,y=(c:Int)∧pa[c]?=some (t:Int):=fun y hy=>by
 obtain ⟨h,e⟩:=A.kidAt ht;rw [e] at hy;obtain ⟨k1,k2,k3,k4⟩:=A.kid t h;obtain ⟨c,rfl⟩:=k1 y hy;exact ⟨c,rfl,(k4 c).1 hy⟩
theorem App.kidLen (A:App g v m n D ow pa he) {t:Nat} (ht:t<n):(D.getD t []).length≤pa.length:=by
 refine kids_len ?_ fun y hy=>?_
 ·obtain ⟨h,e⟩:=A.kidAt ht
  rw [e];exact (A.kid t h).2.1
 obtain ⟨c,rfl,hc⟩:=A.kidLt ht y hy;exact ⟨c,rfl,(List.getElem?_eq_some_iff.1 hc).1⟩
theorem mem_newL {x:Ed}:x∈newL D ow g.2.2↔∃ (k:Nat) (y:Ed),g.2.2[k]?=some y∧∃ c∈D.getD y.2.2.toNat [],x=(ow.getD k 0,y.2.1,c):=by
 unfold newL newOf;rw [List.mem_flatMap];constructor
 ·rintro ⟨⟨y,k⟩,h1,h2⟩
  obtain ⟨c,hc,rfl⟩:=List.mem_map.1 h2;exact ⟨k,y,List.mk_mem_zipIdx_iff_getElem?.1 h1,c,hc,rfl⟩
 rintro ⟨k,y,h1,c,hc,rfl⟩
 exact ⟨(y,k),List.mk_mem_zipIdx_iff_getElem?.2 h1,List.mem_map.2 ⟨c,hc,rfl⟩⟩
theorem vg_nodup (hg:VG g):g.2.2.Nodup:=by
 have h1:∀ (i d:Nat) (h:i+d+1<g.2.2.length),cmp3 (g.2.2[i]'(by omega)) (g.2.2[i+d+1])<0:=by
  intro i d
  induction d with
  | zero=>intro h; exact hg.ord i h
  | succ d ih =>
   intro h;have a:=ih (by omega);have b:=hg.ord (i+d+1) (by omega);rw [cmp3_neg] at *
   have e:g.2.2[i+(d+1)+1]=g.2.2[i+d+1+1]:=by congr 1
   rw [e];omega
 refine List.pairwise_iff_getElem.2 fun i j hi hj hij e=>?_;have:=h1 i (j - i - 1) (by omega)
 have e2:g.2.2[i+(j - i - 1)+1]'(by omega)=g.2.2[j]:=by congr 1; omega
 rw [e2,← e,cmp3_neg] at this;omega
theorem App.newNodup (hg:VG g) (hn:n=g.2.1.toNat) (A:App g v m n D ow pa he):(newL D ow g.2.2).Nodup:=by
 have hed:∀ (k:Nat) (y:Ed),g.2.2[k]?=some y→y.2.2.toNat<n∧y.1<(n:Int)∧0≤y.1∧0≤y.2.2:=fun k y h=>by
  obtain ⟨hk,e⟩:=List.getElem?_eq_some_iff.1 h;have:=hg.ed y (e ▸ List.getElem_mem hk);omega
 have hown:∀ (k:Nat) (y:Ed),g.2.2[k]?=some y→∃ c:Nat,ow.getD k 0=(c:Int)∧pa[c]?=some y.1:=fun k y h=>by
  obtain ⟨c,h1,h2⟩:=A.own k y h (hed k y h).2.1;exact ⟨c,by rw [List.getD_eq_getElem?_getD,h1]; rfl,h2⟩
 unfold newL;refine List.pairwise_flatMap.2 ⟨fun p hp=>?_,?_⟩
 ·have hx:=List.mk_mem_zipIdx_iff_getElem?.1 (show (p.1,p.2)∈g.2.2.zipIdx from hp)
  obtain ⟨h,e⟩:=A.kidAt (hed _ _ hx).1;unfold newOf;rw [e];exact (A.kid _ h).2.1.map _ fun a b hab h=>hab (by simpa using h)
 refine List.pairwise_iff_getElem.2 fun i j hi hj hij x hx y hy e=>?_;rw [List.length_zipIdx] at hi hj;simp only [List.getElem_zipIdx,Nat.zero_add] at hx hy;subst e;unfold newOf at hx hy;obtain ⟨c,hc,rfl⟩:=List.mem_map.1 hx;obtain ⟨d,hd,e⟩:=List.mem_map.1 hy;dsimp only at hc hd e;have gi:g.2.2[i]?=some g.2.2[i]:=List.getElem?_eq_getElem hi;have gj:g.2.2[j]?=some g.2.2[j]:=List.getElem?_eq_getElem hj;obtain ⟨c',rfl,hc'⟩:=A.kidLt (hed _ _ gi).1 c hc;obtain ⟨d',rfl,hd'⟩:=A.kidLt (hed _ _ gj).1 d hd;obtain ⟨o1,p1,q1⟩:=hown _ _ gi;obtain ⟨o2,p2,q2⟩:=hown _ _ gj;simp only [Prod.mk.injEq] at e;obtain ⟨e1,e2,e3⟩:=e
 have e3:d'=c':=by omega
 subst e3;rw [hc'] at hd'
 have e4:g.2.2[i].2.2=g.2.2[j].2.2:=by
  have a:=hed _ _ gi;have b:=hed _ _ gj;have:=Option.some.inj hd';omega
 rw [p1,p2] at e1
 have e5:o2=o1:=by omega
 subst e5;rw [q1] at q2;have e6:g.2.2[i].1=g.2.2[j].1:=Option.some.inj q2;have e7:g.2.2[i]=g.2.2[j]:=Prod.ext e6 (Prod.ext e2.symm e4);exact List.pairwise_iff_getElem.1 (vg_nodup hg) i j hi hj hij e7
theorem App.newLen (hg:VG g) (hn:n=g.2.1.toNat) (A:App g v m n D ow pa he):∀ i,i≤g.2.2.length→(newL D ow (g.2.2.take i)).length≤i*384
 | 0,_=>by simp [newL]
 | i+1,hi=>by
  have:=A.newLen hg hn i (by omega);have hed:=hg.ed _ (List.getElem_mem (show i<g.2.2.length by omega));have s1:=hg.s1;rw [newL_take (by omega),List.length_append];unfold newOf;rw [List.length_map];have h2:=A.kidLen (t:=(g.2.2[i]).2.2.toNat) (by omega);have h3:=A.bd;dsimp only;omega
end
theorem wsum_flat (he:List Int) {α:Type} (l:List α) (f:α→List Ed):wsum he (l.flatMap f)=(l.map fun x=>wsum he (f x)).sum:=by
 induction l with
 | nil=>rfl
 | cons a l ih=>rw [List.flatMap_cons,wsum_app,ih,List.map_cons,List.sum_cons]
theorem sum_ext {α:Type} {l:List α} {f g:α→Int} (h:∀ x∈l,f x=g x):(l.map f).sum=(l.map g).sum:=by rw [List.map_congr_left h]
theorem sum_filter {α:Type} (l:List α) (q:α→Bool) (f:α→Int):(l.map fun x=>if q x=true then f x else 0).sum=((l.filter q).map f).sum:=by
 induction l with
 | nil=>rfl
 | cons a l ih =>
  rw [List.map_cons,List.sum_cons,ih,List.filter_cons];by_cases h:q a=true
  ·rw [if_pos h,if_pos h,List.map_cons,List.sum_cons]
  rw [if_neg h,if_neg h,Int.zero_add]
theorem le_of_sum {l:List Int} (h:∀ x∈l,0≤x):∀ x∈l,x≤l.sum:=by
 induction l with
 | nil=>intro x hx; cases hx
 | cons a l ih =>
  have h1:=ih fun x hx=>h x (List.mem_cons_of_mem _ hx)
  have h0:0≤l.sum:=by
   clear h1 ih
   have:∀ l:List Int,(∀ x∈l,0≤x)→0≤l.sum:=by
    intro l
    induction l with
    | nil=>intro _; simp
    | cons b l ih=>intro h; rw [List.sum_cons]; have:=ih fun x hx=>h x (List.mem_cons_of_mem _ hx); have:=h b (List.mem_cons_self ..); omega
   exact this l fun x hx=>h x (List.mem_cons_of_mem _ hx)
  intro x hx;rw [List.sum_cons]
  rcases List.mem_cons.1 hx with rfl | hx
  ·omega
  have:=h1 x hx;have:=h a (List.mem_cons_self ..);omega
theorem App.applied {g:Gr} {v:List Int} {m:Int} {n:Nat} {D:List (List Int)} {ow pa he:List Int} (hb:Base g v m) (hn:n=g.2.1.toNat) (A:App g v m n D ow pa he) (hv:VG (g.1,(((pa).length:Nat):Int),sortEd (newL D ow g.2.2))) :
  Applied g v m (g.1,(((pa).length:Nat):Int),sortEd (newL D ow g.2.2)) he pa:=by
 have hg:=hb.eig.vg;have s0:=hg.s0;have hvl:=hb.eig.len
 have hed:∀ (k:Nat) (y:Ed),g.2.2[k]?=some y→y.2.2.toNat<n∧y.1<(n:Int)∧0≤y.1∧0≤y.2.2:=fun k y h=>by
  obtain ⟨hk,e⟩:=List.getElem?_eq_some_iff.1 h;have:=hg.ed y (e ▸ List.getElem_mem hk);omega
 have hown:∀ (k:Nat) (y:Ed),g.2.2[k]?=some y→∃ c:Nat,ow.getD k 0=(c:Int)∧pa[c]?=some y.1∧ow[k]?=some (c:Int):=fun k y h=>by
  obtain ⟨c,h1,h2⟩:=A.own k y h (hed k y h).2.1;exact ⟨c,by rw [List.getD_eq_getElem?_getD,h1]; rfl,h2,h1⟩
 have hmem:∀ x,x∈sortEd (newL D ow g.2.2)↔x∈newL D ow g.2.2:=fun x=>(sortEd_perm _).mem_iff
 have hkid:∀ s:Int,0≤s→s<g.2.1→∃ c:Nat,pa[c]?=some s:=fun s h0 h1=>by
  obtain ⟨h,e⟩:=A.kidAt (t:=s.toNat) (by omega);obtain ⟨k1,k2,k3,k4⟩:=A.kid s.toNat h;obtain ⟨y,hy⟩:=List.exists_mem_of_ne_nil _ k3;obtain ⟨c,rfl⟩:=k1 y hy;exact ⟨c,by have:=(k4 c).1 hy; rwa [show ((s.toNat:Nat):Int)=s by omega] at this⟩
 have hSpl:Spl g (g.1,(((pa).length:Nat):Int),sortEd (newL D ow g.2.2)) pa:=by
  refine ⟨rfl,by simp,fun c s h=>?_,hkid,fun e he=>?_,fun x hx=>?_⟩
  ·have:=A.par c s h
   omega
  ·obtain ⟨k,y,h1,c,hc,rfl⟩:=mem_newL.1 ((hmem _).1 he)
   obtain ⟨o,p1,p2,_⟩:=hown k y h1;obtain ⟨c',rfl,hc'⟩:=A.kidLt (hed k y h1).1 c hc;obtain ⟨hk,e⟩:=List.getElem?_eq_some_iff.1 h1;refine ⟨y,e ▸ List.getElem_mem hk,?_,rfl,?_⟩
   ·dsimp only
    rw [p1,Int.toNat_natCast];exact p2
   dsimp only;rw [Int.toNat_natCast,hc'];have:=hed k y h1
   congr 1
   omega
  obtain ⟨k,hk,rfl⟩:=List.mem_iff_getElem.1 hx;have h1:g.2.2[k]?=some g.2.2[k]:=List.getElem?_eq_getElem hk;obtain ⟨o,p1,p2,_⟩:=hown k _ h1;refine ⟨o,p2,fun d hd=>(hmem _).2 (mem_newL.2 ⟨k,_,h1,(d:Int),?_,by rw [p1]⟩)⟩;have hb2:=hed k _ h1;obtain ⟨h,e⟩:=A.kidAt hb2.1;rw [e];refine ((A.kid _ h).2.2.2 d).2 ?_;rw [hd]
  congr 1
  omega
 have hrng:∀ w∈he,1≤w∧w≤4096:=fun w hw=>by
  have h1:=A.hpos w hw;refine ⟨h1,?_⟩;obtain ⟨c,hc,rfl⟩:=List.mem_iff_getElem.1 hw;have hhl:=A.hl;have hpc:pa[c]?=some (pa[c]'(by omega)):=List.getElem?_eq_getElem (by omega);have hp:=A.par c _ hpc;generalize pa[c]'(by omega)=t at hpc hp;obtain ⟨h,e⟩:=A.kidAt (t:=t.toNat) (by omega);have hs:=A.hsum t.toNat h;have hin:(c:Int)∈D[t.toNat]:=((A.kid _ h).2.2.2 c).2 (by rw [hpc]; congr 1; omega)
  have hle:=le_of_sum (l:=D[t.toNat].map fun c=>he.getD c.toNat 0) (fun x hx=>by
   obtain ⟨y,hy,rfl⟩:=List.mem_map.1 hx;obtain ⟨c',rfl⟩:=(A.kid _ h).1 y hy;have hlt:=(List.getElem?_eq_some_iff.1 (((A.kid _ h).2.2.2 c').1 hy)).1;have:=A.hpos _ (getD_memI (v:=he) (j:=((c':Int)).toNat) (by rw [Int.toNat_natCast]; omega))
   omega) _ (List.mem_map.2 ⟨(c:Int),hin,rfl⟩)
  rw [Int.toNat_natCast,getD_at hc,hs] at hle;have:=hb.eig.rng _ (getD_memI (v:=v) (j:=t.toNat) (by omega));omega
 refine ⟨hv,hSpl,⟨hv,hb.eig.m1,hb.eig.m2,by rw [A.hl],fun w hw=>by have:=hrng w hw; omega,?_,fun c hc=>?_⟩⟩
 ·obtain ⟨w,hw,hw0⟩:=hb.eig.nz
  have hpos:0<v.length:=List.length_pos_of_mem hw;obtain ⟨c,hc⟩:=hkid 0 (by omega) (by omega);have hlt:=(List.getElem?_eq_some_iff.1 hc).1;have hhl:=A.hl;refine ⟨_,List.getElem_mem (show c<he.length by omega),?_⟩;have:=A.hpos _ (List.getElem_mem (show c<he.length by omega));omega
 have hhl:=A.hl;have hpc:pa[c]?=some (pa[c]'(by omega)):=List.getElem?_eq_getElem (by omega);have hap:=A.happ c _ hpc;rw [getD_at hc] at hap;refine Int.le_trans hap (Int.le_of_eq ?_);generalize pa[c]'(by omega)=t at hpc;dsimp only
 -- both sides, as sums over the edges with their indices
 have e1:wsum he (from' (sortEd (newL D ow g.2.2)) (c:Int))=wsum he (from' (newL D ow g.2.2) (c:Int)):=wsum_perm ((sortEd_perm _).filter _);rw [e1]
 have e2:from' (newL D ow g.2.2) (c:Int)=g.2.2.zipIdx.flatMap fun p=>from' (newOf D ow p) (c:Int):=by
  unfold newL from';rw [List.filter_flatMap]
 rw [e2,wsum_flat];unfold ownE wsum;rw [List.map_map,← sum_filter];refine sum_ext fun p hp=>?_;have hx:=List.mk_mem_zipIdx_iff_getElem?.1 (show (p.1,p.2)∈g.2.2.zipIdx from hp);obtain ⟨o,p1,p2,p3⟩:=hown _ _ hx;have hbx:=hed _ _ hx;obtain ⟨h,e⟩:=A.kidAt hbx.1;by_cases hoc:o=c
 ·subst hoc
  have ht:p.1.1=t:=by rw [p2] at hpc; exact Option.some.inj hpc
  rw [if_pos (decide_eq_true ⟨ht,p3⟩)]
  have ef:from' (newOf D ow p) (o:Int)=newOf D ow p:=by
   unfold from' newOf;refine List.filter_eq_self.2 fun y hy=>?_;obtain ⟨c,_,rfl⟩:=List.mem_map.1 hy
   simpa using p1
  show (fun x:Ed=>v.getD x.2.2.toNat 0) p.1=((from' (newOf D ow p) (o:Int)).map fun x=>he.getD x.2.2.toNat 0).sum;rw [ef];unfold newOf;rw [List.map_map,e];have:=A.hsum _ h;dsimp only;rw [← this];rfl
 rw [if_neg (fun hh=>by
  have h2:=(of_decide_eq_true hh).2;rw [p3] at h2;have:=Option.some.inj h2
  omega)]
 have ef:from' (newOf D ow p) (c:Int)=[]:=by
  unfold from' newOf;refine List.filter_eq_nil_iff.2 fun y hy=>?_;obtain ⟨d,_,rfl⟩:=List.mem_map.1 hy;simp only [p1,decide_eq_true_eq];omega
 rw [ef];rfl
theorem fits24 {n:Nat} (h:n≤1000000):fits 24 n:=⟨by omega,Nat.le_trans h (by decide)⟩
set_option maxHeartbeats 1000000 in
theorem apply_tot (g : Gr) (v:List Int) (m:Int) (hl:v.length≤9223372036854775807) {round:List TStateParts} (hr:SmallR round) :
    ∃ r,m_splitting_Apply g v m round=some r∧(r.2.2.2=0→Applied g v m r.1 r.2.1 r.2.2.1):=by
  unfold m_splitting_Apply;obtain ⟨e,h1,h2⟩:=round_tot g v m hl hr;rw [h1,Option.bind_some];by_cases he:e≠0
  · rw [if_pos he]
    exact ⟨_,rfl,fun h=>absurd h he⟩
  have hR:=h2 (by omega);have hb:=hR.base;have hg:=hb.eig.vg;have s0:=hg.s0; have s1:=hg.s1; have el:=hg.el; have hvl:=hb.eig.len;rw [if_neg he,if_pos ⟨s0,Int.le_refl _,by omega⟩,if_pos ⟨by omega,Int.le_refl _,by omega⟩];refine exE (fun q=>App g v m g.2.1.toNat q.1 q.2.1 q.2.2.1 q.2.2.2) (loopN g.2.1.toNat (fun i q=>q.1=(i:Int)∧App g v m i q.2.1 q.2.2.1 q.2.2.2.1 q.2.2.2.2) (fun i q hi hq=>?_) (fun q hq=>?_) 0 _ (Nat.zero_le _) ⟨rfl,by rw [Int.toNat_natCast]; exact App.init hg v m⟩) fun q hA=>?_
  · obtain ⟨s', D, ow, pa,he'⟩:=q
    obtain ⟨rfl,A⟩:=hq;dsimp only at A ⊢
    have hiv:i<v.length:=by omega
    rw [if_pos (by omega),out_eq hg (by omega) (by omega),Option.bind_some,ix hiv,Option.bind_some];simp only [jp];have hol:=A.ol; have hbd:=A.bd; have hdl:=A.dl
    have tail : ∀ (P : List (List Int)) (W:List Int),PW g v m i P W→∃ t,(if ((D).length:Int)=(i:Int)∧(D).length<(g.2.1).toNat then
              (loopW (S := Int × (List Int) × (List Int) × (List Int) × (List Int)) (X:=(List Int) × (List Int) × (List Int) × (List Int)) (fun a25 =>
                  if a25.1<((P).length:Int) then
                   (idx P a25.1).bind fun x29 =>
                   (loopW (S:=Int × (List Int)) (X:=(List Int)) (fun a31 =>
                       if a31.1<((x29).length:Int) then
                        (idx x29 a31.1).bind fun x35 =>
                        (idx a31.2 x35).bind fun x37 =>
                        some (Stp.next (IntKind.wrap .i64 (a31.1+1),(a31.2).set (x35).toNat (((a25.2.2.1).length:Nat):Int)))
                       else
                        some (Stp.exit a31.2)) (0,a25.2.1)).bind fun a39 =>
                   if fits 8 ((a25.2.2.2.2:List Int).length+([(((a25.2.2.1).length:Nat):Int)]).length) then
                    if fits 8 ((a25.2.2.1:List Int).length+([(i:Int)]).length) then
                     (idx W a25.1).bind fun x420701 =>
                     if fits 8 ((a25.2.2.2.1:List Int).length+([x420701]).length) then
                      some (Stp.next (IntKind.wrap .i64 (a25.1+1),a39,a25.2.2.1++[(i:Int)],a25.2.2.2.1++[x420701],a25.2.2.2.2++[(((a25.2.2.1).length:Nat):Int)]))
                     else none
                    else none
                   else none
                  else
                   some (Stp.exit (a25.2.1,a25.2.2.1,a25.2.2.2.1,a25.2.2.2.2))) (0,ow,pa,he',([]:List (Int)))).bind fun a43 =>
              some (Stp.next (IntKind.wrap .i64 ((i:Int)+1),D++[a43.2.2.2],a43.1,a43.2.1,a43.2.2.1))
             else none:Option (Stp (Int × (List (List Int)) × (List Int) × (List Int) × (List Int)) ((List (List Int)) × (List Int) × (List Int) × (List Int))))=some t∧∃ s':Int × (List (List Int)) × (List Int) × (List Int) × (List Int),t=.next s'∧s'.1=((i+1:Nat):Int)∧App g v m (i+1) s'.2.1 s'.2.2.1 s'.2.2.2.1 s'.2.2.2.2:=by
      intro P W pw;rw [if_pos ⟨by omega,by omega⟩]
      obtain ⟨r,k1,k2,k3,k4,k5⟩:=kids_loop (P:=P) (W:=W) (ow:=ow) (pa:=pa) (he:=he') (s:=(i:Int)) pw.len pw.six pw.ok (fun p hp k hk=>by
        obtain ⟨n,x,e,h3,_⟩:=okI_of_perm pw.perm p hp k hk;have:=(List.getElem?_eq_some_iff.1 h3).1
        exact ⟨n,e,by omega⟩) (nodupP pw.perm) (by omega) A.hl
      rw [k1,Option.bind_some];obtain ⟨o,pa',he'',row⟩:=r;simp only [Prod.mk.injEq] at k2;obtain ⟨rfl,rfl,rfl⟩:=k2;refine ⟨_,rfl,_,rfl,nx (by omega) hi,?_⟩;exact A.step hg hiv pw k3 k4 k5
    have key:∀ {o:Option (Stp (Int × (List (List Int)) × (List Int) × (List Int) × (List Int)) ((List (List Int)) × (List Int) × (List Int) × (List Int)))},(∃ t,o=some t∧∃ s':Int × (List (List Int)) × (List Int) × (List Int) × (List Int),t=.next s'∧s'.1=((i+1:Nat):Int)∧App g v m (i+1) s'.2.1 s'.2.2.1 s'.2.2.2.1 s'.2.2.2.2) →
        (∃ s',o=some (.next s')∧s'.1=((i+1:Nat):Int)∧App g v m (i+1) s'.2.1 s'.2.2.1 s'.2.2.2.1 s'.2.2.2.2)∨∃ x,o=some (.exit x)∧App g v m g.2.1.toNat x.1 x.2.1 x.2.2.1 x.2.2.2:=fun ⟨t,h,s',ht,h3⟩=>.inl ⟨s',by rw [h,ht],h3⟩
    refine key (lpE _ (find_spl round (i:Int) hr.1) fun x hx=>?_)
    rcases hx with rfl | ⟨k,hk,rfl,hks⟩
    · simp only [lpO]
      rw [if_neg (by decide)];have hw:=PW.whole hb hiv;rw [getD_at hiv] at hw;exact tail _ _ hw
    simp only [lpO];obtain ⟨ws,hso⟩:=hR.each _ (List.getElem_mem hk);rw [if_pos (by omega),ix hk,Option.bind_some,Option.bind_some,hso.eq,Option.bind_some];exact tail _ _ (PW.split hr (List.getElem_mem hk) hso hks)
  · obtain ⟨s',D,ow,pa,he'⟩:=q
    obtain ⟨rfl,A⟩:=hq;dsimp only at A ⊢;rw [if_neg (by omega)];exact ⟨_,rfl,A⟩
  obtain ⟨D,ow,pa,he'⟩:=q;dsimp only at hA ⊢;have hdl:=hA.dl; have hbd:=hA.bd; have hol:=hA.ol;rw [if_pos hdl];refine exE (fun L=>L=newL D ow g.2.2) (loopN g.2.2.length (fun i q=>q=((i:Int),newL D ow (g.2.2.take i))) (fun i q hi hq=>?_) (fun q hq=>?_) 0 _ (Nat.zero_le _) rfl) fun L hL=>?_
  · subst hq
    dsimp only;have hx:g.2.2[i]?=some g.2.2[i]:=List.getElem?_eq_getElem hi;have hed:=hg.ed _ (List.getElem_mem hi);have hnl:=hA.newLen hg rfl i (by omega);have hkl:=hA.kidLen (t:=(g.2.2[i]).2.2.toNat) (by omega);have hown:ow.getD i 0=ow[i]'(by omega):=getD_at (by omega) 0;rw [if_pos (lt_int hi),ix hi,Option.bind_some,newL_take hi];generalize g.2.2[i]=x at hed hkl
    have hD:idx D x.2.2=some (D.getD x.2.2.toNat []):=by
      have:x.2.2=((x.2.2.toNat:Nat):Int):=by omega
      rw [this,idx_nat,Int.toNat_natCast,List.getElem?_eq_getElem (by omega),getD_at (by omega)]
    rw [hD,Option.bind_some,Option.bind_some];unfold newOf;dsimp only;rw [hown];generalize D.getD x.2.2.toNat []=K at hkl;refine .inl (?_:∃ s',_)
    have inner:=loop_is (S:=Int × (List TFromLabelTo)) (X:=List TFromLabelTo) (body:=fun a79 =>
            if a79.1<((K).length:Int) then
             (idx K a79.1).bind fun x83 =>
             (idx ow (i:Int)).bind fun x85 =>
             (idx ow (i:Int)).bind fun x87 =>
             if fits 24 ((a79.2:List TFromLabelTo).length+([(x87,x.2.1,x83)]).length) then
              some (Stp.next (IntKind.wrap .i64 (a79.1+1),a79.2++[(x87,x.2.1,x83)]))
             else none
            else
             some (Stp.exit a79.2)) (fun j=>((j:Int),newL D ow (g.2.2.take i)++(K.take j).map fun c=>(ow[i]'(by omega),x.2.1,c))) K.length (newL D ow (g.2.2.take i)++K.map fun c=>(ow[i]'(by omega),x.2.1,c)) (fun j hj=>by
        dsimp only;rw [if_pos (lt_int hj),ix hj,Option.bind_some,ix (show i<ow.length by omega),Option.bind_some,Option.bind_some,if_pos (fits24 (by rw [List.length_append,List.length_map,List.length_take,List.length_singleton]; omega)),nx (by omega) hj,← List.take_append_getElem hj,List.map_append,List.append_assoc]
        rfl) (by dsimp only; rw [if_neg (not_lt_int _),List.take_length]) (s0:=(0,newL D ow (g.2.2.take i))) (by simp)
    rw [inner,Option.bind_some];exact ⟨_,rfl,by rw [nx (by omega) hi]⟩
  · subst hq
    dsimp only;rw [if_neg (not_lt_int _),List.take_length];exact ⟨_,rfl,rfl⟩
  subst hL;have hnl:=hA.newLen hg rfl g.2.2.length (Nat.le_refl _);rw [List.take_length] at hnl;obtain ⟨r,k1,k2⟩:=make_tot (lb:=g.1) (n:=(((pa).length:Nat):Int)) (l:=newL D ow g.2.2) (by omega) (hA.newNodup hg rfl);rw [k1,Option.bind_some];by_cases hz:r.2≠0
  · rw [if_pos hz]
    exact ⟨_,rfl,fun h=>absurd h (by decide)⟩
  rw [if_neg hz];obtain ⟨q1,q2⟩:=k2 (by omega);refine ⟨_,rfl,fun _=>?_⟩;dsimp only;rw [q1];exact hA.applied hb rfl q2
theorem light_tot (v:List Int) (hl:v.length≤9223372036854775807):∃ b,m_splitting_light v=some b:=by
 unfold m_splitting_light;rw [anyF (f:=fun b0=>m_splitting_light_1 b0) (p:=fun x=>decide (x≠1)) (fun x _=>rfl) hl];exact ⟨_,rfl⟩
noncomputable def runS (p:TGraphWeightsInputsRounds):Nat→Option (Gr × List Int)
 | 0=>some (p.1,p.2.1)
 | i+1=>(runS p i).bind fun q=>(m_splitting_Apply q.1 q.2 p.2.2.1 (p.2.2.2.getD i [])).bind fun r=>if r.2.2.2=0 then some (r.1,r.2.1) else none
structure Okp (p:TGraphWeightsInputsRounds):Prop where
 small:∀ r∈p.2.2.2,SmallR r
 wl:p.2.1.length≤9223372036854775807
 rl:p.2.2.2.length≤9223372036854775807
theorem runS_mono {p:TGraphWeightsInputsRounds} {n:Nat} (h:(runS p n).isSome):∀ i,i≤n→(runS p i).isSome:=by
 induction n with
 | zero=>intro i hi; rw [Nat.le_zero.1 hi]; exact h
 | succ n ih =>
  intro i hi;by_cases e:i=n+1
  ·subst e; exact h
  refine ih ?_ i (by omega)
  cases hq:runS p n with
  | none=>simp only [runS,hq] at h; exact absurd h (by simp)
  | some q=>rfl
theorem runS_ok {p:TGraphWeightsInputsRounds} (ho:Okp p):∀ (i:Nat) (q:Gr × List Int),i≤p.2.2.2.length→runS p i=some q→q.2.length≤9223372036854775807∧SameW p.1 q.1∧(0<i→Eig q.1 q.2 p.2.2.1)∧(VG p.1→VG q.1)
 | 0,q,_,h=>by
  cases h;exact ⟨ho.wl,SameW.refl _,fun h=>absurd h (Nat.lt_irrefl _),fun h=>h⟩
 | i + 1,q,hi,h=>by
  have hil:i<p.2.2.2.length:=by omega
  cases hq:runS p i with
  | none=>simp only [runS,hq,Option.bind_none] at h; cases h
  | some q0 =>
   obtain ⟨h1,h2,_,h3⟩:=runS_ok ho i q0 (by omega) hq;simp only [runS,hq,Option.bind_some,getD_at hil] at h;obtain ⟨r,hr,hok⟩:=apply_tot q0.1 q0.2 p.2.2.1 h1 (ho.small _ (List.getElem_mem hil));rw [hr,Option.bind_some] at h;by_cases h0:r.2.2.2=0
   ·rw [if_pos h0] at h
    cases h;have A:=hok h0;have s1:=A.vg.s1;have hlen:=A.eig.len
    have hg0:VG q0.1:=by
     have:=A.spl
     -- a round is applied to a graph only
     cases hc:m_splitting_Check q0.1 q0.2 p.2.2.1 p.2.2.2[i] with
     | none=>unfold m_splitting_Apply at hr; rw [hc] at hr; cases hr
     | some e =>
      obtain ⟨e',k1,k2⟩:=round_tot q0.1 q0.2 p.2.2.1 h1 (ho.small _ (List.getElem_mem hil));rw [hc] at k1;cases k1;by_cases he:e=0
      ·exact (k2 he).base.eig.vg
      unfold m_splitting_Apply at hr;rw [hc,Option.bind_some,if_pos he] at hr;cases hr;exact absurd h0 he
    refine ⟨by dsimp only; omega,h2.trans ⟨A.spl.lab,fun w=>A.spl.live hg0 A.vg w⟩,fun _=>A.eig,fun _=>A.vg⟩
   rw [if_neg h0] at h;cases h
theorem runS_step {p:TGraphWeightsInputsRounds} (ho:Okp p) {i:Nat} (hi:i<p.2.2.2.length) {q:Gr × List Int} (hq:runS p i=some q) :
  ∃ r,m_splitting_Apply q.1 q.2 p.2.2.1 p.2.2.2[i]=some r∧(r.2.2.2=0→Applied q.1 q.2 p.2.2.1 r.1 r.2.1 r.2.2.1∧runS p (i+1)=some (r.1,r.2.1))∧(r.2.2.2≠0→runS p (i+1)=none):=by
 obtain ⟨h1,h2,_,_⟩:=runS_ok ho i q (by omega) hq;obtain ⟨r,hr,hok⟩:=apply_tot q.1 q.2 p.2.2.1 h1 (ho.small _ (List.getElem_mem hi));refine ⟨r,hr,fun h0=>⟨hok h0,?_⟩,fun h0=>?_⟩
 ·simp only [runS,hq,Option.bind_some,getD_at hi,hr,if_pos h0]
 simp only [runS,hq,Option.bind_some,getD_at hi,hr,if_neg h0]
theorem verify_tot {p:TGraphWeightsInputsRounds} (ho:Okp p):∃ e,m_splitting_Verify p=some e∧(e=0→Base p.1 p.2.1 p.2.2.1∧p.2.2.2.length≤64∧∃ q,runS p p.2.2.2.length=some q∧m_splitting_light q.2=some true):=by
 unfold m_splitting_Verify m_splitting_follow;obtain ⟨e,h1,h2⟩:=base_tot p.1 p.2.1 p.2.2.1 ho.wl;rw [show m_splitting_base (p.1.1,p.1.2.1,p.1.2.2) p.2.1 p.2.2.1=some e from h1,Option.bind_some];by_cases he:e≠0
 ·rw [if_pos he]
  exact ⟨e,rfl,fun h=>absurd h he⟩
 rw [if_neg he];have hb:=h2 (by omega);by_cases c:64<((p.2.2.2).length:Int)
 ·rw [if_pos c]
  exact ⟨4,rfl,fun h=>absurd h (by decide)⟩
 rw [if_neg c];refine exE (fun x:TLabelsStatesEdges × Int=>x.2=0→∃ q,runS p p.2.2.2.length=some q∧m_splitting_light q.2=some true) (lpE (fun x:Ou (Int × Int × (List TFromLabelTo) × (List Int)) (TLabelsStatesEdges × Int)=>(∃ y c,x=Ou.ret (y,c)∧c≠0)∨∃ q:Gr × List Int,x=Ou.go (q.1.1,q.1.2.1,q.1.2.2,q.2)∧runS p p.2.2.2.length=some q) (loopN p.2.2.2.length (fun i s=>s.2.1=(i:Int)∧runS p i=some ((s.2.2.1,s.2.2.2.1,s.2.2.2.2),s.1)) (fun i s hi hs=>?_) (fun s hs=>?_) 0 _ (Nat.zero_le _) ⟨rfl,rfl⟩) fun x hx=>?_) fun x hx=>⟨_,rfl,fun h=>⟨hb,by omega,hx h⟩⟩
 ·obtain ⟨w,i',a,b,l⟩:=s
  obtain ⟨rfl,hrun⟩:=hs;dsimp only at hrun ⊢;obtain ⟨r,k1,k2,k3⟩:=runS_step ho hi hrun;rw [if_pos (lt_int hi),ix hi,Option.bind_some,k1,Option.bind_some];by_cases h0:r.2.2.2≠0
  ·rw [if_pos h0]
   exact .inr ⟨_,rfl,.inl ⟨_,_,rfl,h0⟩⟩
  rw [if_neg h0];exact .inl ⟨_,rfl,nx ho.rl hi,(k2 (by omega)).2⟩
 ·obtain ⟨w,i',a,b,l⟩:=s
  obtain ⟨rfl,hrun⟩:=hs;dsimp only at hrun ⊢;rw [if_neg (not_lt_int _)];exact ⟨_,rfl,.inr ⟨((a,b,l),w),rfl,hrun⟩⟩
 rcases hx with ⟨y,c,rfl,hc⟩ | ⟨q,rfl,hq⟩
 ·exact ⟨_,rfl,fun h=>absurd h hc⟩
 simp only [lpO];obtain ⟨b,hlb⟩:=light_tot q.2 (runS_ok ho _ q (Nat.le_refl _) hq).1;rw [hlb,Option.bind_some]
 cases b with
 | false=>exact ⟨_,rfl,fun h=>absurd h (by decide)⟩
 | true=>exact ⟨_,rfl,fun _=>⟨q,hq,hlb⟩⟩
theorem next_loop {pa fr:List Int} (hp:∀ (c:Nat) (s:Int),pa[c]?=some s→0≤s∧s<(fr.length:Int)) (hl:pa.length≤1000):∃ r,loopW (S:=Int × (List Int)) (X:=(List Int)) (fun a38 =>
                if a38.1<((pa).length:Int) then
                 (idx pa a38.1).bind fun x42 =>
                 (idx fr x42).bind fun x44 =>
                 (idx a38.2 a38.1).bind fun x46 =>
                 some (Stp.next (IntKind.wrap .i64 (a38.1+1),(a38.2).set (a38.1).toNat x44))
                else
                 some (Stp.exit a38.2)) (0,List.replicate (((pa).length:Int)).toNat (0:Int))=some r∧r.length=pa.length:=by
  refine loopN pa.length (fun i s=>s.1=(i:Int)∧s.2.length=pa.length) (fun i s hi hs=>?_) (fun s hs=>?_) 0 _ (Nat.zero_le _) ⟨rfl,by simp⟩
  · obtain ⟨a,o⟩:=s
    obtain ⟨rfl,h1⟩:=hs;dsimp only at h1 ⊢;have hpi:=hp i _ (List.getElem?_eq_getElem hi);rw [if_pos (lt_int hi),ix hi,Option.bind_some];generalize pa[i]=s at hpi;obtain ⟨t,rfl⟩:=Int.eq_ofNat_of_zero_le hpi.1;rw [ix (show t<fr.length by omega),Option.bind_some,ix (show i<o.length by omega),Option.bind_some];exact .inl ⟨_,rfl,nx (by omega) hi,by dsimp only; rw [List.length_set]; exact h1⟩
  obtain ⟨a,o⟩:=s;obtain ⟨rfl,h1⟩:=hs;dsimp only at h1 ⊢;rw [if_neg (not_lt_int _)];exact ⟨_,rfl,h1⟩
theorem toEx {A B:Type} {o:Option A} {f:B→A} (h:∃ t,o=some t∧∃ b,t=f b):∃ b,o=some (f b):=by
 obtain ⟨t,h1,b,rfl⟩:=h;exact ⟨b,h1⟩
theorem final_eq {p:TGraphWeightsInputsRounds} (ho:Okp p) (hb:Base p.1 p.2.1 p.2.2.1) (h64:p.2.2.2.length≤64) {q:Gr × List Int} (hq:runS p p.2.2.2.length=some q) (hlight:m_splitting_light q.2=some true):∃ fr,m_splitting_Final p=some (q.1,fr,0):=by
  have hg:=hb.eig.vg;have s0:=hg.s0; have s1:=hg.s1;obtain ⟨e,h1,h2⟩:=base_tot p.1 p.2.1 p.2.2.1 ho.wl
  have hbase:m_splitting_base p.1 p.2.1 p.2.2.1=some 0:=by
    have hE:=hb.eig;unfold m_splitting_base;obtain ⟨e',k1,k2⟩:=eig_tot p.1 p.2.1 p.2.2.1 ho.wl;rw [k1,Option.bind_some,if_neg (fun h=>h (k2.2 hE)),contains_eq ho.wl,Option.bind_some];rw [if_neg];intro h;obtain ⟨x,hx,h3⟩:=List.any_eq_true.1 h;have:=hb.pos x hx;have:=of_decide_eq_true h3;omega
  have hmm:min (max p.1.2.1 0) 64=((p.1.2.1.toNat:Nat):Int):=by omega
  have hsome:=runS_mono (p:=p) (n:=p.2.2.2.length) (by rw [hq]; rfl);unfold m_splitting_Final
  refine toEx (f:=fun fr=>(q.1,fr,(0:Int))) (exE (fun L:List Int=>L.length=p.1.2.1.toNat) (loopN p.1.2.1.toNat (fun i s=>s.1=(i:Int)∧s.2.length=i) (fun i s hi hs=>by
        obtain ⟨a,o⟩:=s;obtain ⟨rfl,h1⟩:=hs;dsimp only at h1 ⊢;rw [hmm,if_pos (lt_int hi),if_pos (fits8 (by rw [List.length_singleton]; omega))]
        exact .inl ⟨_,rfl,nx (by omega) hi,by dsimp only; rw [List.length_append,h1]; rfl⟩) (fun s hs=>by
        obtain ⟨a,o⟩:=s;obtain ⟨rfl,h1⟩:=hs;dsimp only at h1 ⊢;rw [hmm,if_neg (not_lt_int _)]
        exact ⟨_,rfl,h1⟩) 0 (0,([]:List Int)) (Nat.zero_le _) ⟨rfl,rfl⟩) fun L hL=>?_)
  simp only [jp];rw [show m_splitting_base (p.1.1,p.1.2.1,p.1.2.2) p.2.1 p.2.2.1=some 0 from hbase,Option.bind_some,if_neg (fun h=>h rfl),if_neg (by omega)];refine exE (fun x=>∃ fr,x=(q.1.1,q.1.2.1,q.1.2.2,fr,q.2)) (loopN p.2.2.2.length (fun i s=>s.2.1=(i:Int)∧runS p i=some ((s.2.2.1,s.2.2.2.1,s.2.2.2.2.1),s.1)∧VG (s.2.2.1,s.2.2.2.1,s.2.2.2.2.1)∧s.2.2.2.2.2.length=s.2.2.2.1.toNat) (fun i s hi hs=>?_) (fun s hs=>?_) 0 _ (Nat.zero_le _) ⟨rfl,rfl,hg,hL⟩) fun x hx=>?_
  · obtain ⟨w,i',a,b,l,fr⟩:=s
    obtain ⟨rfl,hrun,hgi,hfl⟩:=hs;dsimp only at hrun hfl hgi ⊢;obtain ⟨r,k1,k2,k3⟩:=runS_step ho hi hrun
    have h0:r.2.2.2=0:=Classical.byContradiction fun h=>by
      have:=hsome (i+1) (by omega);rw [k3 h] at this;cases this
    obtain ⟨A,k4⟩:=k2 h0;have a1:=A.vg.s1; have a0:=A.vg.s0;have hpl:=A.spl.len;have hbs:=hgi.s0;dsimp only at hbs;rw [if_pos (lt_int hi),ix hi,Option.bind_some,k1,Option.bind_some,if_neg (fun h=>h h0),if_pos ⟨by omega,by omega,by omega⟩]
    obtain ⟨nr,n1,n2⟩:=next_loop (pa:=r.2.2.1) (fr:=fr) (fun c s hc=>by
      have:=A.spl.rng c s hc;dsimp only at this
      omega) (by omega)
    rw [n1,Option.bind_some];exact .inl ⟨_,rfl,nx ho.rl hi,k4,A.vg,by dsimp only; rw [n2,hpl]⟩
  · obtain ⟨w,i',a,b,l,fr⟩:=s
    obtain ⟨rfl,hrun,hgi,hfl⟩:=hs;dsimp only at hrun hfl ⊢;rw [if_neg (not_lt_int _)];rw [hq] at hrun;cases hrun;exact ⟨_,rfl,fr,rfl⟩
  obtain ⟨fr,rfl⟩:=hx;dsimp only;rw [hlight,Option.bind_some];simp only [Bool.not_true,Bool.false_eq_true,if_false];rw [if_neg (fun h=>h rfl)];have hvg:=(runS_ok ho _ q (Nat.le_refl _) hq).2.2.2 hg;have el:=hvg.el
  have hc:m_slices_Clone_Lapi_Edge_api_Edge q.1.2.2=some q.1.2.2:=by unfold m_slices_Clone_Lapi_Edge_api_Edge; rw [if_pos (by omega)]
  rw [hc,Option.bind_some];exact ⟨_,rfl,fr,rfl⟩
theorem greatR_tot (l:List TStateParts) (hl:l.length≤9223372036854775807):∃ b,m_ref24_GreatRound l=some b∧(b=false→SmallR l):=by
  unfold m_ref24_GreatRound;refine lpE (fun x:Ou Unit Bool=>x=Ou.ret true∨x=Ou.go ()∧∀ x∈l,x.2.length≤6∧∀ p∈x.2,p.length≤16) (loopN l.length (fun i s=>s=(i:Int)∧∀ (j:Nat) (hj:j<l.length),j<i→l[j].2.length≤6∧∀ p∈l[j].2,p.length≤16) (fun i s hi hs=>?_) (fun s hs=>?_) 0 _ (Nat.zero_le _) ⟨rfl,fun j hj h=>by omega⟩) fun x hx=>?_
  · obtain ⟨rfl,hno⟩:=hs
    rw [if_pos (lt_int hi)];simp only [ix hi,Option.bind_some];by_cases c:6<((l[i].2).length:Int)
    · rw [if_pos c]
      exact .inr ⟨_,rfl,.inl rfl⟩
    rw [if_neg c]
    have inner:∃ x,loopW (S:=Int) (X:=Ou (Unit) (Bool)) (fun a7 =>
           if a7<((l[i].2).length:Int) then
            (idx l[i].2 a7).bind fun x15 =>
            if 16<((x15).length:Int) then
             some (Stp.exit (Ou.ret true))
            else
             some (Stp.next (IntKind.wrap .i64 (a7+1)))
           else
            some (Stp.exit (Ou.go ()))) 0=some x∧(x=Ou.ret true∨x=Ou.go ()∧∀ p∈l[i].2,p.length≤16):=by
      refine loopN l[i].2.length (fun k s=>s=(k:Int)∧∀ (j:Nat) (hj:j<l[i].2.length),j<k→l[i].2[j].length≤16) (fun k s hk hs=>?_) (fun s hs=>?_) 0 _ (Nat.zero_le _) ⟨rfl,fun j hj h=>by omega⟩
      · obtain ⟨rfl,h1⟩:=hs
        rw [if_pos (lt_int hk),ix hk,Option.bind_some];by_cases c2:16<((l[i].2[k]).length:Int)
        · rw [if_pos c2]
          exact .inr ⟨_,rfl,.inl rfl⟩
        rw [if_neg c2];refine .inl ⟨_,rfl,nx (by omega) hk,fun j hj hjk=>?_⟩;by_cases e:j=k
        · subst e; omega
        exact h1 j hj (by omega)
      obtain ⟨rfl,h1⟩:=hs;rw [if_neg (not_lt_int _)];refine ⟨_,rfl,.inr ⟨rfl,fun p hp=>?_⟩⟩;obtain ⟨j,hj,rfl⟩:=List.mem_iff_getElem.1 hp;exact h1 j hj hj
    obtain ⟨x,hx,hq⟩:=inner;rw [hx]
    rcases hq with rfl | ⟨rfl,hq⟩
    · exact .inr ⟨_,rfl,.inl rfl⟩
    refine .inl ⟨_,rfl,nx hl hi,fun j hj hji=>?_⟩;by_cases e:j=i
    · subst e
      exact ⟨by omega,hq⟩
    exact hno j hj (by omega)
  · obtain ⟨rfl,hno⟩:=hs
    rw [if_neg (not_lt_int _)];refine ⟨_,rfl,.inr ⟨rfl,fun x hx=>?_⟩⟩;obtain ⟨j,hj,rfl⟩:=List.mem_iff_getElem.1 hx;exact hno j hj hj
  rcases hx with rfl | ⟨rfl,hq⟩
  · exact ⟨true,rfl,by simp⟩
  refine ⟨_,rfl,fun h=>?_⟩;have h:=of_decide_eq_false h;exact ⟨by omega,hq⟩
theorem greatV_tot (v:List Int) (hl:v.length≤9223372036854775807):∃ b,m_ref24_GreatVector v=some b:=by
  unfold m_ref24_GreatVector
  have := lpE (C:=fun _:Bool=>True) (M:=fun _:Unit=>some (decide (8<((v).length:Int)))) (Rt:=some) (fun _:Ou Unit Bool=>True) (loopN (body:=fun a1:Int =>
     if a1<((v).length:Int) then
      jp (fun (a5:Bool) =>
        if a5=true then
         some (Stp.exit (Ou.ret true))
        else
         some (Stp.next (IntKind.wrap .i64 (a1+1))))
        fun k7 =>
       (idx v a1).bind fun x8 =>
       if 12<x8 then
        (idx v a1).bind fun x10 =>
        k7 (decide (x10≤4096))
       else
        k7 false
     else
      some (Stp.exit (Ou.go ()))) (Q:=fun _=>True) v.length (fun k s=>s=(k:Int)) (fun k s hk hs=>?_) (fun s hs=>?_) 0 0 (Nat.zero_le _) rfl) fun x _=>?_
  · obtain ⟨b,hb,_⟩:=this
    exact ⟨b,hb⟩
  · subst hs
    rw [if_pos (lt_int hk)];simp only [jp,ix hk,Option.bind_some];by_cases c:12<v[k]
    · rw [if_pos c]
      by_cases c2:v[k]≤4096
      · rw [decide_eq_true c2]
        exact .inr ⟨_,rfl,trivial⟩
      rw [decide_eq_false c2];exact .inl ⟨_,rfl,nx hl hk⟩
    rw [if_neg c];exact .inl ⟨_,rfl,nx hl hk⟩
  · subst hs
    rw [if_neg (not_lt_int _)];exact ⟨_,rfl,trivial⟩
  cases x with
  | go _=>exact ⟨_,rfl,trivial⟩
  | ret b=>exact ⟨_,rfl,trivial⟩
theorem great24_tot (p:TGraphWeightsInputsRounds) (h1:p.2.2.2.length≤9223372036854775807) (h2:∀ r∈p.2.2.2,r.length≤9223372036854775807) (h3:p.2.1.length≤9223372036854775807):∃ b,m_ref24_Great p=some b∧(b=false→Okp p):=by
 unfold m_ref24_Great;refine lpE (fun x:Ou Unit Bool=>x=Ou.ret true∨x=Ou.go ()∧∀ r∈p.2.2.2,SmallR r) (loopN p.2.2.2.length (fun i s=>s=(i:Int)∧∀ (j:Nat) (hj:j<p.2.2.2.length),j<i→SmallR p.2.2.2[j]) (fun i s hi hs=>?_) (fun s hs=>?_) 0 _ (Nat.zero_le _) ⟨rfl,fun j hj h=>by omega⟩) fun x hx=>?_
 ·obtain ⟨rfl,hno⟩:=hs
  obtain ⟨b,k1,k2⟩:=greatR_tot p.2.2.2[i] (h2 _ (List.getElem_mem hi));rw [if_pos (lt_int hi),ix hi,Option.bind_some,k1,Option.bind_some]
  cases b with
  | true=>exact .inr ⟨_,rfl,.inl rfl⟩
  | false =>
   rw [if_neg (by decide)];refine .inl ⟨_,rfl,nx h1 hi,fun j hj hji=>?_⟩;by_cases e:j=i
   ·subst e; exact k2 rfl
   exact hno j hj (by omega)
 ·obtain ⟨rfl,hno⟩:=hs
  rw [if_neg (not_lt_int _)];refine ⟨_,rfl,.inr ⟨rfl,fun x hx=>?_⟩⟩;obtain ⟨j,hj,rfl⟩:=List.mem_iff_getElem.1 hx;exact hno j hj hj
 rcases hx with rfl | ⟨rfl,hq⟩
 ·exact ⟨true,rfl,by simp⟩
 simp only [lpO,jp];obtain ⟨b,hb⟩:=great09_tot p.1;obtain ⟨b2,hb2⟩:=greatV_tot p.2.1 h3;rw [show m_ref09_Great (p.1.1,p.1.2.1,p.1.2.2)=some b from hb,Option.bind_some];have ok:Okp p:=⟨hq,h3,h1⟩
 cases b with
 | true=>exact ⟨true,rfl,fun _=>ok⟩
 | false =>
  simp only [Bool.false_eq_true,if_false];rw [hb2,Option.bind_some]
  cases b2 with
  | true=>exact ⟨true,rfl,fun _=>ok⟩
  | false =>
   simp only [Bool.false_eq_true,if_false];split
   ·split
    ·exact ⟨_,rfl,fun _=>ok⟩
    exact ⟨_,rfl,fun _=>ok⟩
   exact ⟨_,rfl,fun _=>ok⟩
theorem law_split (p:TGraphWeightsInputsRounds) (h1:p.2.2.2.length≤9223372036854775807) (h2:∀ r∈p.2.2.2,r.length≤9223372036854775807) (h3:p.2.1.length≤9223372036854775807):m_top_TopSplitWords p=some true:=by
 have aw:(m_top_top27Awake).bind (fun x4=>some x4)=some true:=by rw [awake27]; rfl
 unfold m_top_TopSplitWords;simp only [jp];obtain ⟨b,k1,k2⟩:=great24_tot p h1 h2 h3;rw [k1,Option.bind_some]
 cases b with
 | true=>simp only [if_true]; exact aw
 | false =>
  have ok:=k2 rfl;simp only [Bool.false_eq_true,if_false];by_cases c1:8<p.1.2.1
  ·rw [if_pos c1]; simp only [if_true]; exact aw
  rw [if_neg c1];by_cases c2:16<p.1.1
  ·rw [if_pos c2]; simp only [if_true]; exact aw
  rw [if_neg c2];obtain ⟨e,v1,v2⟩:=verify_tot ok;rw [v1,Option.bind_some];by_cases he:e≠0
  ·rw [decide_eq_true he]; simp only [if_true]; exact aw
  rw [decide_eq_false he];simp only [Bool.false_eq_true,if_false];obtain ⟨hb,h64,q,hq,hlight⟩:=v2 (by omega);have hg:=hb.eig.vg;obtain ⟨_,hsw,_,hvq⟩:=runS_ok ok _ q (Nat.le_refl _) hq;have hqv:=hvq hg;have qs1:=hqv.s1;obtain ⟨fr,hfin⟩:=final_eq ok hb h64 hq hlight;obtain ⟨y,y1,y2,y3⟩:=alike_same hg hqv (by omega) hsw;rw [hfin,Option.bind_some];dsimp only;rw [if_neg (fun h=>h rfl),decide_eq_false (by omega)];simp only [Bool.false_eq_true,if_false];rw [show m_top_top27Alike (p.1.1,p.1.2.1,p.1.2.2) q.1=some y from y1,Option.bind_some];rw [y2,y3];simp only [Bool.not_true,Bool.false_eq_true,if_false];by_cases c3:0<((p.2.2.2).length:Int)
  ·have hpos:0<p.2.2.2.length:=by omega
   rw [if_pos c3,ix0 hpos,Option.bind_some];have hsome:=runS_mono (p:=p) (n:=p.2.2.2.length) (by rw [hq]; rfl);obtain ⟨r,r1,r2,r3⟩:=runS_step ok hpos (q:=(p.1,p.2.1)) rfl
   have h0:r.2.2.2=0:=Classical.byContradiction fun h=>by
    have:=hsome 1 (by omega);rw [r3 h] at this;cases this
   obtain ⟨A,hr1⟩:=r2 h0;obtain ⟨w1,w2,_,_⟩:=runS_ok ok 1 _ (by omega) hr1;rw [show m_splitting_Apply (p.1.1,p.1.2.1,p.1.2.2) p.2.1 p.2.2.1 p.2.2.2[0]=some r from r1,Option.bind_some,if_neg (fun h=>h h0)];obtain ⟨e',k3,k4⟩:=eig_tot r.1 r.2.1 p.2.2.1 w1;rw [k3,Option.bind_some,decide_eq_false (fun h=>h (k4.2 A.eig))];simp only [Bool.false_eq_true,if_false];obtain ⟨z,z1,z2,z3⟩:=alike_same hg A.vg (by omega) w2;rw [show m_top_top27Alike (p.1.1,p.1.2.1,p.1.2.2) r.1=some z from z1,Option.bind_some,z2,z3];simp only [if_true];exact aw
  rw [if_neg c3];exact aw
theorem law_split_facts (p:TGraphWeightsInputsRounds) (hf:factL [HV.agg [HV.int .i64 p.1.1,HV.int .i64 p.1.2.1,slE eFromLabelTo p.1.2.2,slE eInt p.2.1,HV.int .i64 p.2.2.1,slE (eSl eStateParts) p.2.2.2]]):m_top_TopSplitWords p=some true:=by
 obtain ⟨⟨_,_,_,hw,_,hr,_⟩,_⟩:=hf;have e:maxLen=9223372036854775807:=rfl;have h1:p.2.2.2.length≤maxLen:=hr.1;have h3:p.2.1.length≤maxLen:=hw.1;refine law_split p (by omega) (fun r hm=>?_) (by omega);have h2:factL ((eSl eStateParts).E p.2.2.2):=hr.2.2;have h4:fact (slE eStateParts r):=factL_iff.1 h2 _ (List.mem_map.2 ⟨r,hm,rfl⟩);have h5:r.length≤maxLen:=h4.1;omega
section
open Go Go.ChangeShapes Go.WideShapes Go.ChangeAt Go.RowKit
def Kept (W W':World):Prop:=W'.os=W.os∧W'.output=W.output∧W.heap.size≤W'.heap.size∧∀ b:Nat,b<W.heap.size→W'.heap[b]?=W.heap[b]?
theorem Kept.frame {W W':World} (h:Kept W W') (may:MemPlace→Prop):W.keptBut W' may:=by
 refine ⟨h.1,h.2.1,fun i hi=>?_⟩;rw [h.2.2.2 i hi]
 cases W.heap[i]? with
 | none=>rfl
 | some o=>cases o with
  | cells c t fr=>exact ⟨rfl,rfl,rfl,fun _ _=>rfl⟩
  | map es clock=>exact .inr ⟨rfl,rfl⟩
  | _=>rfl
theorem Kept.frozen {W W':World} (h:Kept W W') (a:Addr) (ha:a.block<W.heap.size):W'.frozen? a=W.frozen? a:=by
 simp only [World.frozen?,h.2.2.2 _ ha]
def Mu.zero:Mu:={ nx:=0,loc:=fun _=>none,held:=fun _=>False }
theorem SR.zero (W:World):SR W Mu.zero [] :=
 ⟨(fun _ _ _ h=>by cases h),(fun _ _ _ h=>by cases h),(fun _ _ h=>by cases h),(fun _ _ _ _ _ h=>by cases h),(fun _ h=>h.elim)⟩
theorem calls_of_pure {P:Program} {f:FuncId} {args:List HV} {vs:List Value} {W:World} (hp:Pure P f args (· = .bool true)) (hr:RepL W Mu.zero args vs) (hgl:GlOk W Mu.zero:=by exact ⟨(fun _ h=>nomatch h),(fun _ h=>nomatch h)⟩) :
  Calls P f vs.toArray W fun e W'=>e=.returned (.bool true)∧Kept W W':=by
 refine (hp.2 Mu.zero W vs (SR.zero W) hr hgl).mono ?_
 rintro e W' ⟨v,r,H',μ',rfl,⟨rfl,_,_⟩,hs,hv,E⟩
 have hv':v=.bool true:=hv;subst hv';exact ⟨rfl,E.os,E.output,E.size,fun b hb=>E.keep b hb fun ⟨_,_,hl⟩=>by cases hl⟩
theorem post_of_kept {H:Type} {enc:TypeId × Value→H} {P:Program} {f:Func} {s:ChangeSpec} {apart fresh handsOn again:Bool} {W W':World} {args:Array Value} {v:Value} {ds gs:List (DataW H)} {before pa pv:List MemPlace}
  (hW:DataW.Whole enc P f.params.toList s.vars apart W args.toList ds gs before)
  (hres:∀ (b:Nat) (sp:Nat→Bool) (hd:Bool),DataW.TrodAll enc P W' b sp hd f.resultTypes.toList (v.resultList f.resultTypes.size) (s.fn H (ds++gs)).results [])
  (hargs:∀ sp:Nat→Bool,(∀ p∈before,sp p.block=true)→DataW.TrodAll enc P W' 0 sp true f.params.toList args.toList (s.fn H (ds++gs)).args pa)
  (hvars:∀ sp:Nat→Bool,(∀ p∈before,sp p.block=true)→DataW.TrodVars enc P W' sp s.vars (s.fn H (ds++gs)).vars pv)
  (hps:before=pa++pv) (hk:Kept W W')
  (hok:∀ (j:Nat) (t:TypeId) (r:Value),f.resultTypes[j]?=some t→(v.resultList f.resultTypes.size)[j]?=some r→Value.okWide P W' .any 0 t r) :
  s.post enc P f apart fresh handsOn again W args v W':=by
 have hold:∀ p∈before,(fun b=>decide (b<W.heap.size)) p.block=true:=fun p hp=>by simpa using hW.lt p hp
 refine ⟨ds,gs,before,[],pa,pv,hW,hres _ _ _,hargs _ hold,hvars _ hold,World.keptBut_mono (fun p hp=>⟨hp,?_⟩) (hk.frame (· ∈ before)),fun _=>?_⟩
 ·rw [hps,List.mem_append] at hp
  exact Or.inr hp
 have hlt:=hW.lt;obtain ⟨_,_,_,_,_,hz,hn⟩:=hW;refine ⟨hok,_,_,([]++pa)++pv,⟨[]++pa,pv,trodAll_append (hargs _ (fun _ _=>rfl)) (hres _ _ _),hvars _ (fun _ _=>rfl),rfl,?_,?_⟩,?_⟩
 ·intro b off hp
  have hp':MemPlace.cell b off∈before:=by rw [hps]; simpa using hp
  rw [hk.frozen _ (hlt _ hp')];exact hz b off hp'
 ·intro ha
  have:=hn ha;rw [hps] at this
  simpa using this
 intro p hp _;rw [hps]
 simpa using hp
end
section
open Go Go.ChangeShapes Go.WideShapes Go.ChangeAt Go.RowKit
theorem nown (b:Nat):¬ Mu.zero.owns b:=fun h=>h.elim (fun ⟨_,_,h⟩=>by cases h) id
theorem trodAll_stays {H:Type} {enc:TypeId × Value→H} {P:Program} (hl:laidOutB P=true) {W W':World} {sp:Nat→Bool}:∀ {ts:List TypeId} {vs:List Value} {ds:List (DataW H)} {ps:List MemPlace},
  (ts.all fun t=>P.readableRec t && decide (t<P.types.size))=true→DataW.TrodAll enc P W 0 (fun _=>true) true ts vs ds ps→(∀ p∈ps,W.sameAt W' p)→(∀ p∈ps,sp p.block=true)→DataW.TrodAll enc P W' 0 sp true ts vs ds ps
 | [],vs,ds,ps,_,h,_,_=>by
  obtain ⟨rfl,rfl,rfl⟩:=trodAll_nil h;exact trodAll_mk0
 | t::ts,vs,ds,ps,ht,h,h1,h2=>by
  obtain ⟨v,vs',d,ds',p,q,rfl,rfl,rfl,h3,h4⟩:=trodAll_cons h;simp only [List.all_cons,Bool.and_eq_true,decide_eq_true_eq] at ht
  exact trodAll_cons_mk (WideElems.Trod_stays hl ht.1.1 ht.1.2 h3 (fun x hx=>h1 x (List.mem_append_left _ hx)) (fun x hx=>h2 x (List.mem_append_left _ hx)))
   (trodAll_stays hl ht.2 h4 (fun x hx=>h1 x (List.mem_append_right _ hx)) (fun x hx=>h2 x (List.mem_append_right _ hx)))
theorem Kept.same {W W':World} (h:Kept W W') (p:MemPlace) (hp:p.block<W.heap.size):W.sameAt W' p:=by
 cases p with
 | cell b off =>
  show W'.cell? ⟨b,off,none⟩=W.cell? ⟨b,off,none⟩;unfold World.cell?;rw [h.2.2.2 b hp]
 | map b=>exact h.2.2.2 b hp
theorem post_of_true {H:Type} {enc:TypeId × Value→H} {P:Program} {f:Func} {s:ChangeSpec} {apart fresh handsOn again:Bool} {W W':World} {args:Array Value} {ds gs:List (DataW H)} {before:List MemPlace} {t:TypeId}
  (hl:laidOutB P=true) (hps:(f.params.toList.all fun t=>P.readableRec t && decide (t<P.types.size))=true) (hres:f.resultTypes = #[t]) (ht:P.underlying t=some .bool) (hv:s.vars=[])
  (hW:DataW.Whole enc P f.params.toList s.vars apart W args.toList ds gs before) (hk:Kept W W')
  (h1:(s.fn H (ds++gs)).results=[.lit (.bool true)]) (h2:(s.fn H (ds++gs)).args=ds) (h3:(s.fn H (ds++gs)).vars=[]) :
  s.post enc P f apart fresh handsOn again W args (.bool true) W':=by
 have hlt:=hW.lt;have hW':=hW;obtain ⟨p,q,hA,hV,rfl,_,_⟩:=hW;rw [hv] at hV;obtain ⟨rfl,rfl⟩:=trodVars_none hV;refine post_of_kept (pa:=p) (pv:=[]) hW' (fun _ _ _=>?_) (fun sp hsp=>?_) (fun _ _=>?_) (by simp) hk (ok_one hres rfl (okWide_bool_mk ht _))
 ·rw [hres,h1]
  exact trodAll_cons_mk (shut_bool ht _) trodAll_mk0
 ·rw [h2]
  exact trodAll_stays hl hps hA (fun x hx=>hk.same x (hlt x (by simpa using hx))) (fun x hx=>hsp x (by simpa using hx))
 rw [h3,hv];rfl
end
section
open Go Go.ChangeShapes Go.WideShapes Go.ChangeAt Go.RowKit
section
variable {H:Type} {enc:TypeId × Value→H} {P:Program} {W:World} {base:Nat}
theorem repL_app {μ:Mu}:∀ {hs ks:List HV} {vs us:List Value},RepL W μ hs vs→RepL W μ ks us→RepL W μ (hs++ks) (vs++us)
 | [],_,_,_,h,h'=>by cases h; exact h'
 | _::_,_,_,_,⟨x,xs,rfl,h1,h2⟩,h'=>⟨x,_,rfl,h1,repL_app h2 h'⟩
theorem add_adds (a:Addr) (i j:Nat):(a.add i).add j=a.add (i+j):=by
 unfold Addr.add
 repeat' split
 all_goals simp_all [Nat.add_assoc]
theorem open3 {t:TypeId} {f0 f1 f2:Field} {fuel:Nat} {cs:List Value} {x:DataW H × List MemPlace} (ht:P.underlying t=some (.struct #[f0,f1,f2])) (o0:f0.offset=0) (o1:f1.offset=1) (o2:f2.offset=2) (c:P.cellsOf t=3)
  (c0:P.cellsOf f0.type=1) (c1:P.cellsOf f1.type=1) (c2:P.cellsOf f2.type=1) (h:DataW.trod enc P W 0 (fun _=>true) true fuel t cs=some x) :
  ∃ v0 v1 v2 y0 y1 y2 n,cs=[v0,v1,v2]∧DataW.trod enc P W 0 (fun _=>true) true n f0.type [v0]=some y0∧DataW.trod enc P W 0 (fun _=>true) true n f1.type [v1]=some y1∧DataW.trod enc P W 0 (fun _=>true) true n f2.type [v2]=some y2:=by
 obtain ⟨xs,n,_,rfl,hl,hlen,hf⟩:=DataW.trod_struct ht h;rw [c] at hl
 match cs,hl with
 | [v0,v1,v2],_ =>
  match xs,hlen with
  | [y0,y1,y2],_ =>
   refine ⟨v0,v1,v2,y0,y1,y2,n,rfl,?_,?_,?_⟩
   ·have:=hf 0 f0 rfl; rw [o0,c0] at this; exact this
   ·have:=hf 1 f1 rfl; rw [o1,c1] at this; exact this
   have:=hf 2 f2 rfl; rw [o2,c2] at this; exact this
theorem rep_i64 {n:Int} {ti:TypeId} {m:Nat} {v:Value} {y:DataW H × List MemPlace} (hti:P.underlying ti=some (.int .i64)) (h:DataW.trod enc P W 0 (fun _=>true) true m ti [v]=some y):∃ n:Int,Rep W Mu.zero (.int .i64 n) v:=by
 obtain ⟨n,hv,_,hw⟩:=DataW.trod_int hti h;cases hv;exact ⟨n,rfl,hw⟩
end
end
section
open Go Go.ChangeShapes Go.WideShapes Go.ChangeAt Go.RowKit
section
variable {H:Type} {enc:TypeId × Value→H} {P:Program} {W:World} {base:Nat}
theorem open2 {t:TypeId} {f0 f1:Field} {fuel:Nat} {cs:List Value} {x:DataW H × List MemPlace} (ht:P.underlying t=some (.struct #[f0,f1])) (o0:f0.offset=0) (o1:f1.offset=1) (c:P.cellsOf t=2)
  (c0:P.cellsOf f0.type=1) (c1:P.cellsOf f1.type=1) (h:DataW.trod enc P W 0 (fun _=>true) true fuel t cs=some x) :
  ∃ v0 v1 y0 y1 n,cs=[v0,v1]∧DataW.trod enc P W 0 (fun _=>true) true n f0.type [v0]=some y0∧DataW.trod enc P W 0 (fun _=>true) true n f1.type [v1]=some y1:=by
 obtain ⟨xs,n,_,rfl,hl,hlen,hf⟩:=DataW.trod_struct ht h;rw [c] at hl
 match cs,hl with
 | [v0,v1],_ =>
  match xs,hlen with
  | [y0,y1],_ =>
   refine ⟨v0,v1,y0,y1,n,rfl,?_,?_⟩
   ·have:=hf 0 f0 rfl; rw [o0,c0] at this; exact this
   have:=hf 1 f1 rfl; rw [o1,c1] at this; exact this
end
end
section
open Go Go.ChangeShapes Go.WideShapes Go.ChangeAt Go.RowKit
section
variable {H:Type} {enc:TypeId × Value→H} {P:Program} {W:World} {base:Nat}
theorem cell_seg {a:Addr} {v:Value} (h0:W.cell? (a.add 0)=some v) {vs:List Value} (hc:∀ i (hi:i<vs.length),W.cell? (a.add i)=some vs[i]) :
  ∃ b off,a=⟨b,off,none⟩∧Seg W b off vs:=by
 obtain ⟨b,off,spot⟩:=a
 have e0:(Addr.mk b off spot).add 0=⟨b,off,spot⟩:=by simp [Addr.add]
 rw [e0] at h0;unfold World.cell? at h0;dsimp only at h0;split at h0
 ·rename_i cur e' fr hb
  split at h0
  ·cases h0
  rename_i hs
  obtain rfl:spot=none:=by cases spot <;> simp_all
  refine ⟨b,off,rfl,?_⟩
  have hoff:off≤cur.size:=by
   obtain ⟨h,_⟩:=Array.getElem?_eq_some_iff.1 h0;omega
  have hget:∀ i (hi:i<vs.length),cur.toList[off+i]?=some vs[i]:=fun i hi=>by
   have:=hc i hi;rw [add_plain] at this;unfold World.cell? at this;rw [hb] at this
   simpa using this
  refine ⟨cur,e',fr,cur.toList.take off,cur.toList.drop (off+vs.length),hb,?_,by simp [hoff]⟩
  have hvs:vs=(cur.toList.drop off).take vs.length:=by
   apply List.ext_getElem?;intro i
   rcases Nat.lt_or_ge i vs.length with hi | hi
   ·rw [List.getElem?_take_of_lt hi,List.getElem?_drop,hget i hi,List.getElem?_eq_getElem hi]
   rw [List.getElem?_eq_none hi,List.getElem?_eq_none (by simp; omega)]
  have:vs++cur.toList.drop (off+vs.length)=cur.toList.drop off:=by
   conv=>lhs; arg 1; rw [hvs]
   rw [← List.drop_drop];exact List.take_append_drop _ _
  rw [List.append_assoc,this,List.take_append_drop]
 cases h0
theorem open_rows0 {α:Type} (c:EncL α) {fuel:Nat} {t e:TypeId} {cs:List Value} {x:DataW H × List MemPlace} (ht:P.underlying t=some (.slice e)) (hk:P.cellsOf e=c.k) (hk0:0<c.k) (hone:∀ x,ones (c.C x))
  (hel:∀ n cs y,DataW.trod enc P W 0 (fun _=>true) true n e cs=some y→∃ x:α,RepL W Mu.zero (c.C x) cs)
  (h:DataW.trod enc P W 0 (fun _=>true) true fuel t cs=some x):∃ l:List α,RepL W Mu.zero [slE c l] cs:=by
 rcases DataW.trod_slice ht h with ⟨rfl,_⟩ | ⟨a,len,cap,elems,rest,n,_,rfl,_,_,hl,hm,hlen,hel',hsp,_⟩
 ·refine ⟨[],_,_,rfl,?_,rfl⟩
  show _∧_;exact ⟨(by rw [c.nil]; exact fun _ h=>nomatch h),(by rw [c.nil]; simp),Nat.zero_le _,.inl ⟨rfl,none,rfl⟩⟩
 rcases Nat.eq_zero_or_pos cap with rfl | hcap
 ·obtain rfl:len=0:=by omega
  refine ⟨[],_,_,rfl,?_,rfl⟩;show _∧_;exact ⟨(by rw [c.nil]; exact fun _ h=>nomatch h),(by rw [c.nil]; simp),Nat.zero_le _,.inl ⟨rfl,some a,rfl⟩⟩
 have each:∀ i,i<len→∃ cs' x,W.cells? 0 (a.add (i*c.k)) c.k=some cs'∧RepL W Mu.zero (c.C x) cs':=fun i hi=>by
  have h1:=hel' i hi;rw [List.getElem?_eq_getElem (by omega),Option.bind_eq_some_iff,hk] at h1;obtain ⟨cs',h2,h3⟩:=h1;obtain ⟨x,hx⟩:=hel _ _ _ h3;exact ⟨cs',x,h2,hx⟩
 have first:∃ v,W.cell? (a.add 0)=some v:=by
  have:∃ cs',W.cells? 0 (a.add 0) c.k=some cs':=by
   rcases Nat.eq_zero_or_pos len with rfl | hlen0
   ·obtain ⟨hr,h1⟩:=hsp rfl
    have h1:=h1 0 (by omega);rw [List.getElem?_eq_getElem (by omega),Option.bind_eq_some_iff,hk] at h1;obtain ⟨cs',h2,_⟩:=h1;rw [show (0+0)*c.k=0 by simp] at h2;exact ⟨cs',h2⟩
   obtain ⟨cs',_,h2,_⟩:=each 0 hlen0;rw [Nat.zero_mul] at h2;exact ⟨cs',h2⟩
  obtain ⟨cs',h1⟩:=this;obtain ⟨_,h2,h3⟩:=World.cells?_some h1;have:=h3 0 (by omega);rw [add_adds,Nat.zero_add,List.getElem?_eq_getElem (by omega)] at this;exact ⟨_,this⟩
 obtain ⟨v,hv⟩:=first
 have build:∀ m,m≤len→∃ (l:List α) (vs:List Value),l.length=m∧vs.length=m*c.k∧RepL W Mu.zero (c.E l) vs∧∀ i (hi:i<vs.length),W.cell? (a.add i)=some vs[i]:=by
  intro m
  induction m with
  | zero=>exact fun _=>⟨[],[],rfl,by simp,by rw [c.nil]; rfl,fun i hi=>by simp at hi⟩
  | succ m ih =>
   intro hm;obtain ⟨l,vs,h1,h2,h3,h4⟩:=ih (by omega);obtain ⟨cs',x,h5,h6⟩:=each m (by omega);obtain ⟨_,h7,h8⟩:=World.cells?_some h5;refine ⟨l++[x],vs++cs',by simp [h1],by rw [List.length_append,h2,h7,Nat.succ_mul],by rw [c.append,c.one]; exact repL_app h3 h6,fun i hi=>?_⟩
   rcases Nat.lt_or_ge i vs.length with hi' | hi'
   ·rw [List.getElem_append_left hi']; exact h4 i hi'
   rw [List.getElem_append_right hi'];rw [List.length_append] at hi;have:=h8 (i - vs.length) (by omega);rw [add_adds,h2,show m*c.k+(i - m*c.k)=i by omega] at this;rw [this,List.getElem?_eq_getElem (by omega)];simp only [h2]
 obtain ⟨l,vs,h1,h2,h3,h4⟩:=build len (Nat.le_refl _);obtain ⟨b,off,rfl,hseg⟩:=cell_seg hv h4;refine ⟨l,_,_,rfl,?_,rfl⟩;show _∧_;refine ⟨fun d hd=>?_,c.len l,by omega,.inr ⟨b,off,cap,vs,by rw [h1],by omega,nown b,hseg,h3⟩⟩;rw [c.hE] at hd;obtain ⟨x,_,hdx⟩:=List.mem_flatMap.1 hd;exact hone x d hdx
end
end
section
open Go Go.ChangeShapes Go.WideShapes Go.ChangeAt Go.RowKit
section
variable {H:Type} {enc:TypeId × Value→H} {P:Program} {W:World} {base:Nat}
theorem open6 {t:TypeId} {f0 f1 f2 f3:Field} {fuel:Nat} {cs:List Value} {x:DataW H × List MemPlace} (ht:P.underlying t=some (.struct #[f0,f1,f2,f3])) (o0:f0.offset=0) (o1:f1.offset=3) (o2:f2.offset=4) (o3:f3.offset=5) (c:P.cellsOf t=6)
  (c0:P.cellsOf f0.type=3) (c1:P.cellsOf f1.type=1) (c2:P.cellsOf f2.type=1) (c3:P.cellsOf f3.type=1) (h:DataW.trod enc P W 0 (fun _=>true) true fuel t cs=some x) :
  ∃ v0 v1 v2 v3 v4 v5 y0 y1 y2 y3 n,cs=[v0,v1,v2,v3,v4,v5]∧DataW.trod enc P W 0 (fun _=>true) true n f0.type [v0,v1,v2]=some y0∧DataW.trod enc P W 0 (fun _=>true) true n f1.type [v3]=some y1∧DataW.trod enc P W 0 (fun _=>true) true n f2.type [v4]=some y2∧DataW.trod enc P W 0 (fun _=>true) true n f3.type [v5]=some y3:=by
 obtain ⟨xs,n,_,rfl,hl,hlen,hf⟩:=DataW.trod_struct ht h;rw [c] at hl
 match cs,hl with
 | [v0,v1,v2,v3,v4,v5],_ =>
  match xs,hlen with
  | [y0,y1,y2,y3],_ =>
   refine ⟨v0,v1,v2,v3,v4,v5,y0,y1,y2,y3,n,rfl,?_,?_,?_,?_⟩
   ·have:=hf 0 f0 rfl; rw [o0,c0] at this; exact this
   ·have:=hf 1 f1 rfl; rw [o1,c1] at this; exact this
   ·have:=hf 2 f2 rfl; rw [o2,c2] at this; exact this
   have:=hf 3 f3 rfl; rw [o3,c3] at this; exact this
theorem open_proof {t tg ti tes te tv tq tr ts tpp:TypeId} {f0 f1 f2 f3 g0 g1 g2 e0 e1 e2 s0 s1:Field} {v:Value} {d:DataW H} {ps:List MemPlace} (ht:P.underlying t=some (.struct #[f0,f1,f2,f3])) (o:f0.offset=0∧f1.offset=3∧f2.offset=4∧f3.offset=5)
  (y:f0.type=tg∧f1.type=tv∧f2.type=ti∧f3.type=tq) (htg:P.underlying tg=some (.struct #[g0,g1,g2])) (og:g0.offset=0∧g1.offset=1∧g2.offset=2) (yg:g0.type=ti∧g1.type=ti∧g2.type=tes)
  (hte:P.underlying te=some (.struct #[e0,e1,e2])) (oe:e0.offset=0∧e1.offset=1∧e2.offset=2) (ye:e0.type=ti∧e1.type=ti∧e2.type=ti) (hts:P.underlying ts=some (.struct #[s0,s1])) (os:s0.offset=0∧s1.offset=1) (ys:s0.type=ti∧s1.type=tpp)
  (hti:P.underlying ti=some (.int .i64)) (htes:P.underlying tes=some (.slice te)) (htv:P.underlying tv=some (.slice ti)) (htq:P.underlying tq=some (.slice tr)) (htr:P.underlying tr=some (.slice ts)) (htpp:P.underlying tpp=some (.slice tv))
  (c:P.cellsOf t=6) (cg:P.cellsOf tg=3) (ci:P.cellsOf ti=1) (ces:P.cellsOf tes=1) (ce:P.cellsOf te=3) (cv:P.cellsOf tv=1) (cq:P.cellsOf tq=1) (cr:P.cellsOf tr=1) (cs:P.cellsOf ts=2) (cpp:P.cellsOf tpp=1)
  (hval:Value.okWide P W .any base t v) (h:DataW.Trod enc P W 0 (fun _=>true) true t v d ps):∃ g:TGraphWeightsInputsRounds,Rep W Mu.zero (.agg (cGraphWeightsInputsRounds g)) v:=by
 obtain ⟨y0,y1,y2,y3⟩:=y;obtain ⟨yg0,yg1,yg2⟩:=yg;obtain ⟨ye0,ye1,ye2⟩:=ye;obtain ⟨ys0,ys1⟩:=ys;simp only [Value.okWide,ht] at hval;obtain ⟨arr,rfl,_,hrow⟩:=hval;obtain ⟨fuel,hf⟩:=h;obtain ⟨v0,v1,v2,v3,v4,v5,a0,a1,a2,a3,n,hcs,h0,h1,h2,h3⟩:=open6 ht o.1 o.2.1 o.2.2.1 o.2.2.2 c (by rw [y0]; exact cg) (by rw [y1]; exact cv) (by rw [y2]; exact ci) (by rw [y3]; exact cq) hf
 have harr:arr = #[v0,v1,v2,v3,v4,v5]:=by
  have:arr.toList=[v0,v1,v2,v3,v4,v5]:=hcs;cases arr
  simp_all
 subst harr;rw [y0] at h0;rw [y1] at h1;rw [y2] at h2;rw [y3] at h3;obtain ⟨w0,w1,w2,b0,b1,b2,n',ew,k0,k1,k2⟩:=open3 htg og.1 og.2.1 og.2.2 cg (by rw [yg0]; exact ci) (by rw [yg1]; exact ci) (by rw [yg2]; exact ces) h0;cases ew;rw [yg0] at k0;rw [yg1] at k1;rw [yg2] at k2
 have num:∀ (m:Nat) (cs':List Value) (y:DataW H × List MemPlace),DataW.trod enc P W 0 (fun _=>true) true m ti cs'=some y→∃ x:Int,RepL W Mu.zero (eInt.C x) cs':=by
  intro m cs' y hy;obtain ⟨p,e,_,hw⟩:=DataW.trod_int hti hy;subst e;exact ⟨p,_,_,rfl,⟨rfl,hw⟩,rfl⟩
 have ints:∀ (m:Nat) (cs':List Value) (y:DataW H × List MemPlace),DataW.trod enc P W 0 (fun _=>true) true m tv cs'=some y→∃ x:List Int,RepL W Mu.zero ((eSl eInt).C x) cs':=fun m cs' y hy =>
  open_rows0 eInt htv ci (by decide) (fun x d hd=>by
   have hd:d∈[HV.int .i64 x]:=hd;simp only [List.mem_cons,List.not_mem_nil,or_false] at hd;subst hd
   rfl) num hy
 have parts:∀ (m:Nat) (cs':List Value) (y:DataW H × List MemPlace),DataW.trod enc P W 0 (fun _=>true) true m tpp cs'=some y→∃ x:List (List Int),RepL W Mu.zero [slE (eSl eInt) x] cs':=fun m cs' y hy =>
  open_rows0 (eSl eInt) htpp cv (by decide) (fun x d hd=>by
   have hd:d∈[slE eInt x]:=hd;simp only [List.mem_cons,List.not_mem_nil,or_false] at hd;subst hd
   rfl) ints hy
 have split:∀ (m:Nat) (cs':List Value) (y:DataW H × List MemPlace),DataW.trod enc P W 0 (fun _=>true) true m ts cs'=some y→∃ x:TStateParts,RepL W Mu.zero (eStateParts.C x) cs':=by
  intro m cs' y hy;obtain ⟨u0,u1,c0,c1,n2,rfl,q0,q1⟩:=open2 hts os.1 os.2 cs (by rw [ys0]; exact ci) (by rw [ys1]; exact cpp) hy;rw [ys0] at q0;rw [ys1] at q1;obtain ⟨p0,r0⟩:=rep_i64 (n:=0) hti q0;obtain ⟨x,z,zs,e,r1,hz⟩:=parts _ _ _ q1;cases hz;cases e;exact ⟨(p0,x),_,_,rfl,r0,_,_,rfl,r1,rfl⟩
 have round:∀ (m:Nat) (cs':List Value) (y:DataW H × List MemPlace),DataW.trod enc P W 0 (fun _=>true) true m tr cs'=some y→∃ x:List TStateParts,RepL W Mu.zero ((eSl eStateParts).C x) cs':=fun m cs' y hy =>
  open_rows0 eStateParts htr cs (by decide) (fun x d hd=>by
   have hd:d∈[HV.int .i64 x.1,slE (eSl eInt) x.2]:=hd;simp only [List.mem_cons,List.not_mem_nil,or_false] at hd
   rcases hd with rfl | rfl <;> rfl) split hy
 have edge:∀ (m:Nat) (cs':List Value) (y:DataW H × List MemPlace),DataW.trod enc P W 0 (fun _=>true) true m te cs'=some y→∃ x:TFromLabelTo,RepL W Mu.zero (eFromLabelTo.C x) cs':=by
  intro m cs' y hy;obtain ⟨u0,u1,u2,c0,c1,c2,n2,rfl,q0,q1,q2⟩:=open3 hte oe.1 oe.2.1 oe.2.2 ce (by rw [ye0]; exact ci) (by rw [ye1]; exact ci) (by rw [ye2]; exact ci) hy;rw [ye0] at q0;rw [ye1] at q1;rw [ye2] at q2;obtain ⟨p0,r0⟩:=rep_i64 (n:=0) hti q0;obtain ⟨p1,r1⟩:=rep_i64 (n:=0) hti q1;obtain ⟨p2,r2⟩:=rep_i64 (n:=0) hti q2;exact ⟨(p0,p1,p2),_,_,rfl,r0,_,_,rfl,r1,_,_,rfl,r2,rfl⟩
 obtain ⟨l0,rl⟩:=rep_i64 (n:=0) hti k0;obtain ⟨l1,rs⟩:=rep_i64 (n:=0) hti k1
 obtain ⟨es,ev,evs,e1,re,he⟩:=open_rows0 eFromLabelTo htes ce (by decide) (fun x d hd=>by
   have hd:d∈[HV.int .i64 x.1,HV.int .i64 x.2.1,HV.int .i64 x.2.2]:=hd;simp only [List.mem_cons,List.not_mem_nil,or_false] at hd
   rcases hd with rfl | rfl | rfl <;> rfl) edge k2
 cases he;cases e1;obtain ⟨ws,wv,wvs,e2,rw',hw⟩:=ints _ _ _ h1;cases hw;cases e2;obtain ⟨m0,rm⟩:=rep_i64 (n:=0) hti h2
 obtain ⟨rr,qv,qvs,e3,rq,hq⟩:=open_rows0 (eSl eStateParts) htq cr (by decide) (fun x d hd=>by
   have hd:d∈[slE eStateParts x]:=hd;simp only [List.mem_cons,List.not_mem_nil,or_false] at hd;subst hd
   rfl) round h3
 cases hq;cases e3;refine ⟨((l0,l1,es),ws,m0,rr),?_⟩;show _∧_;refine ⟨fun d hd=>?_,_,rfl,_,_,rfl,rl,_,_,rfl,rs,_,_,rfl,re,_,_,rfl,rw',_,_,rfl,rm,_,_,rfl,rq,rfl⟩;have hd:d∈[HV.int .i64 l0,HV.int .i64 l1,slE eFromLabelTo es,slE eInt ws,HV.int .i64 m0,slE (eSl eStateParts) rr]:=hd;simp only [List.mem_cons,List.not_mem_nil,or_false] at hd
 rcases hd with rfl | rfl | rfl | rfl | rfl | rfl <;> rfl
end
end
section
open Go Go.ChangeShapes Go.WideShapes Go.ChangeAt Go.RowKit
section
variable {H:Type} {enc:TypeId × Value→H} {P:Program} {W:World} {base:Nat}
end
end
section
open Go Go.ChangeShapes Go.WideShapes Go.ChangeAt Go.RowKit
section
variable {H:Type} {enc:TypeId × Value→H} {P:Program} {W:World} {base:Nat}
end
end
end Go.AW
namespace Go.Proofs.YtgckiadiplcbeaaGreatDoor
open Go Go.AW Go.ChangeShapes Go.WideShapes Go.ChangeAt Go.RowKit Go.ChangeMaps
set_option linter.unusedVariables false
theorem ownM:ownKnob Tryz.prog.godebug=none:=by kernel_rfl
theorem laidB:laidOutB Tryz.prog=true:=by kernel_rfl
theorem wLaw (a0:TGraphWeightsInputsRounds):Pure Tryz.prog 3 [HV.agg [HV.int .i64 a0.1.1,HV.int .i64 a0.1.2.1,slE eFromLabelTo a0.1.2.2,slE eInt a0.2.1,HV.int .i64 a0.2.2.1,slE (eSl eStateParts) a0.2.2.2]] (· = .bool true):=ACall.facts (enters' Tryz.func3 rfl rfl) fun hf=>w_top_TopSplitWords (law_split_facts a0 hf)
set_option maxRecDepth 100000 in
theorem liftedL (os:Os) (started:os.Started) (H:Type) (enc:TypeId × Value→H) :
  ReturnsInHanded {} Tryz.checked os 3 .any (fun w args=>(Rows.topSplitWordsSpec.pre enc Tryz.prog Tryz.f3 [] false w args∧laidMetH Tryz.prog Rows.topSplitWordsRow.laid w)∧sizedMet enc Tryz.prog Tryz.f3 (OpenSpec.ofChange Rows.topSplitWordsSpec) false w args) (Rows.topSplitWordsSpec.post enc Tryz.prog Tryz.f3 false true false false):=by
 refine returnsInHanded_of_change_and (C:=Tryz.checked) (X:=fun w _=>laidMetH Tryz.prog Rows.topSplitWordsRow.laid w) (fun _ _ _ hh h=>h.of_heap hh) ownM started (by kernel_rfl) Tryz.func3
  (ChangeSpec.witness_shaped (enc:=enc) (C:=Tryz.checked) (os:=os) (X:=fun w _=>laidMetH Tryz.prog Rows.topSplitWordsRow.laid w) false (World.laidAll Tryz.prog os Rows.topSplitWordsRow.laid) #[.agg #[.int .i64 0,.int .i64 0,.slice none 0 0,.slice none 0 0,.int .i64 0,.slice none 0 0]] 8 (World.laidAll_os _ _ _)
   (World.shaped_of_ZipB (by kernel_rfl) (by kernel_rfl)) (by kernel_rfl) (by kernel_rfl) (by kernel_rfl)
   (by rw [MakeChecks.laidMetH_plain _ _ _ (by kernel_rfl)]; exact laidMet_laidAll _ (by kernel_rfl) (by kernel_rfl))) ?_
 intro W base args ds gs before hval0 hW hcnd _ _ _;have hval:∀ (j:Nat) t v,Tryz.f3.params[j]?=some t→args[j]?=some v→Value.okWide Tryz.prog W .any base t v:=hval0;have hW':=hW;obtain ⟨p,q,hA0,hV,rfl,hfz,hnd⟩:=hW;have hA:DataW.TrodAll enc Tryz.prog W 0 (fun _=>true) true Tryz.f3.params.toList args.toList ds p:=hA0;rw [Tryz.params3] at hA hval;obtain ⟨v0,vs0,d0,ds0,p0,q0,hargs,rfl,rfl,h0,r0⟩:=trodAll_cons hA;obtain ⟨rfl,rfl,rfl⟩:=trodAll_nil r0
 obtain rfl:args = #[v0]:=by cases args; simp_all
 obtain ⟨rfl,rfl⟩:=trodVars_none hV;obtain ⟨a0,hr0⟩:=open_proof Tryz.underlying28 ⟨rfl,rfl,rfl,rfl⟩ ⟨rfl,rfl,rfl,rfl⟩ Tryz.underlying24 ⟨rfl,rfl,rfl⟩ ⟨rfl,rfl,rfl⟩ Tryz.underlying55 ⟨rfl,rfl,rfl⟩ ⟨rfl,rfl,rfl⟩ Tryz.underlying65 ⟨rfl,rfl⟩ ⟨rfl,rfl⟩ Tryz.underlying3 Tryz.underlying22 Tryz.underlying25 Tryz.underlying26 Tryz.underlying39 Tryz.underlying47 (by kernel_rfl) (by kernel_rfl) (by kernel_rfl) (by kernel_rfl) (by kernel_rfl) (by kernel_rfl) (by kernel_rfl) (by kernel_rfl) (by kernel_rfl) (by kernel_rfl) (hval 0 28 v0 rfl rfl) h0;refine (calls_of_pure (vs:=[v0]) (wLaw a0) ⟨_,_,rfl,hr0,rfl⟩).mono fun e W' ⟨he,hk⟩=>?_;subst he;exact ⟨_,rfl,post_of_true laidB (by kernel_rfl) rfl Tryz.underlying4 rfl hW' hk rfl rfl rfl⟩
theorem topSplitWordsProved:Rows.TopSplitWordsSaid :=
 OpenClaim.holds_of_wide 3 Tryz.f3 rfl rfl rfl rfl rfl rfl rfl ⟨rfl,rfl,rfl,rfl,rfl⟩ rfl rfl rfl rfl rfl (by kernel_rfl) Tryz.func3 (by kernel_rfl)
  (of_decide_eq_true (by kernel_rfl)) (by unfold Func.isWrapper; first | (rw [if_pos (by decide +kernel)]; kernel_rfl) | (rw [if_neg (by decide +kernel)]; exact ⟨rfl,rfl⟩))
  (fun os started H enc _=>liftedL os started H enc)
theorem topSplitWordsCardProved:Rows.TopSplitWordsCardSaid :=
 Claim7.holds_tied_plain_at .later [] [.data,.data,.data] true (true, "da1c88490be0455993ac8ed4b0585ed9ed1b59d70c773a352e7270aa8562683a") false topSplitWordsProved (fun _ h=>by cases h) (by kernel_rfl) (fun _ h=>by cases h) topSplitWords_row_tie rfl ⟨rfl,rfl⟩ (by kernel_rfl) rfl
  (fun f fn hf hfn=>by
   obtain rfl:f=3:=Option.some.inj ((show Tryz.prog.funcNamed "groove/groovetop.TopSplitWords" = some 3 by kernel_rfl).symm.trans hf) |>.symm
   obtain rfl:fn=Tryz.f3:=(Option.some.inj (Tryz.func3.symm.trans hfn)).symm
   exact ⟨by kernel_rfl,fun j t ht=>by
    rw [Tryz.params3] at ht
    have hm:t∈[28]:=by simpa using Array.mem_of_getElem? ht
    have hall:([28].all fun u=>!Tryz.prog.wantsStandIn u)=true:=by kernel_rfl
    exact (show Tryz.prog.wantsStandIn t=false by simpa using List.all_eq_true.1 hall t hm)⟩)
  (by kernel_rfl)
#print axioms topSplitWordsCardProved
end Go.Proofs.YtgckiadiplcbeaaGreatDoor
