import Derived.Test.YtdghoeofijghfaaGreatMg2
import Derived.Laws.Externs
import Derived.Lib.Builder
import Derived.Lib.Bytealg
import Derived.Lib.Slices
import Derived.Lib.Strings
import Derived.Lib.UnsafeStr
import Derived.Lib.Walk
import Derived.Shelf.RegionOpenPlain
import Derived.Shelf.Slices.CompactI
import Derived.Shelf.SortM.Plain
import Derived.Shelf.SortM.SortNone
import Derived.Test.YtdghoeofijghfaaGreatChecked
import Derived.Test.YtdghoeofijghfaaGreatProg
import Derived.WalkKit
set_option linter.unusedSimpArgs false
set_option linter.unusedVariables false
noncomputable section
namespace Go.AW
open Go
section
variable {P:Program} {N B:Nat} {s:AS} {ops:Array Oper} {o:Oper} {K:AS→Prop} {F:List Nat→AS→Prop} {L:List Nat}
def lit:HV→Bool
 | .int _ _ | .bool _ | .str _=>true
 | _=>false
theorem qoO {w w':World} {μ μ':Mu} {h:HV} {v:Value} (hl:lit h=true) (hr:Rep w μ h v):Rep w' μ' h v:=by
 cases h <;> first | exact hr | cases hl
theorem qrx {w w':World} {μ μ':Mu} {h:HV} {v v':Value} (hl:lit h=true) (hr:Rep w μ h v) (hr':Rep w' μ' h v'):v=v':=by
 cases h <;> first | (cases hl; done) | (exact hr.1.trans hr'.1.symm) | (exact Eq.trans hr (Eq.symm hr'))
def Free (P:Program) (o:Oper) (s:AS) (v:HV):Prop:=aval P o.op s (· = v)∧(∀ c,o.op ≠ .call c) ∧
 ∀ (B N:Nat) (μ:Mu) (a:Act) (w:World),SRel none N B μ s a w→∃ u,∀ w',(execOp a.eval o).run P w'=.ok (.value u) w'
theorem qgJ {op:BinOp} {tx:TypeId} {x y:Operand} {u:TypeId} {h g r:HV} (hop:o.op=.binOp op tx x y u) (hx:s.ev x=some h) (hy:s.ev y=some g) (hb:qcm P op tx h g (· = r)) (hl:(lit h && lit g && lit r)=true):Free P o s r:=by
 simp only [Bool.and_eq_true] at hl;obtain ⟨⟨l1,l2⟩,l3⟩:=hl;refine ⟨by rw [hop]; exact qag hx hy hb,(fun c e=>by rw [hop] at e; cases e),fun B N μ a w hs=>?_⟩;obtain ⟨q,hv,_,he,hr⟩:=qg4 (P:=P) (w:=w) (tx:=tx) (hs.ev hx) (hs.ev hy) hb;refine ⟨q,fun w'=>?_⟩;have hx':=qoO (w':=w') (μ':=μ) l1 (hs.ev hx);have hy':=qoO (w':=w') (μ':=μ) l2 (hs.ev hy);obtain ⟨q',hv',h1,he',hr'⟩:=qg4 (P:=P) (tx:=tx) hx' hy' hb;subst he;subst he';have:=qrx l3 hr hr';subst this;simp [execOp,hop,qjE hx' hy' hb,h1]
theorem qlD {x:Operand} {i:Nat} {vs:List HV} {hv:HV} (hop:o.op=.extract x i) (hx:s.ev x=some (.tup vs)) (h:vs[i]?=some hv):Free P o s hv:=by
 refine ⟨by rw [hop]; exact qak hx h,(fun c e=>by rw [hop] at e; cases e),fun B N μ a w hs=>?_⟩;obtain ⟨us,he,hl⟩:=hs.ev hx;obtain ⟨u,hu,hr⟩:=hl.get h;exact ⟨u,fun w'=>by simp [execOp,hop,he,Instr.extract,hu]⟩
def qol (N:Nat) (ops:Array Oper) (L:List Nat) (i:Nat):Bool:=match ops[i]? with
 | some o=>o.guard.isNone && okd N o.dst && qrv ops && !L.contains i && (da ops i).all L.contains && qqj ops L i && daOk ops
 | none=>false
theorem qbO {i d:Nat} {v:HV} {sl:List (Nat × HV)} {H:Heap} (hF:F=AnyL P none N ops K) (ho:ops[i]?=some o) (hc:qol N ops L i=true) (h0:(o.dst,qkQ o.op)=(some d,true)) (hv:Free P o ⟨sl,H⟩ v) (k:F (i::L) ⟨(d,v)::sl,H⟩):F L ⟨sl,H⟩:=by
 subst hF;obtain ⟨hv,hnc,hfr⟩:=hv;intro w0 μ0 fuel listed μ1 a1 w1 hl hcn hlist hs hE;unfold qol at hc;rw [ho] at hc;simp only [Bool.and_eq_true,Bool.not_eq_true',List.all_eq_true] at hc;obtain ⟨⟨⟨⟨⟨⟨hg,hN⟩,hsel⟩,hiL⟩,hready⟩,hfree⟩,hda⟩:=hc;have hda':=qed hda;have his:i<ops.size:=(Array.getElem?_eq_some_iff.1 ho).1
 have hin:listed.getD i false=false:=by rw [hlist i his]; exact hiL
 have hg':o.guard=none:=by
  cases h:o.guard with
  | none=>rfl
  | some x=>rw [h] at hg; cases hg
 cases fuel with
 | zero =>
  have:=qgo (listed:=listed) (i:=i) (by rw [qb5 (by omega)]; exact hin);omega
 | succ fuel =>
  obtain ⟨u,hu⟩:=hfr _ _ _ _ _ hs;have hop:AOp P none N o (AnyL P none N ops K (i::L)) ⟨sl,H⟩:=qrB (fid:=0) (mt:=[]) hN (qai h0 hv (qab k))
  have hwp:=hop w0 μ0 μ1 a1 w1 (fun a w=>wpAnyIn (qet none) 0 P .any ops (Post none N (fun e s'=>e=.normal∧K s') w0 μ0) fuel (listed.setIfInBounds i true) a w) (fun _ _ _=>False) hs hE (fun μ2 s2 a2 w2 hk hs2 hE2=>hk w0 μ0 fuel _ μ2 a2 w2 (by simp [hl]) (by
   have:=qe8 (listed:=listed) (i:=i) (by rw [qb5 (by omega)]; exact hin)
   omega) (fun k hk=>by
   by_cases hki:i=k
   ·subst hki
    have:i<listed.size:=by omega
    simp [this]
   rw [getD_set_ne false hki,hlist k hk];simp only [List.contains_cons]
   have:(k == i)=false:=by simpa using fun e=>hki e.symm
   rw [this,Bool.false_or]) hs2 hE2)
  have hnext:=hwp.2;rw [qfG,Oper.semAt_none,hu w1] at hnext;refine wpAnyIn_first (oi:=o) (v:=u) (qfG none) ho (qjX hsel) (fun c a w hq=>absurd rfl (hq.1 c)) fuel listed a1 w1 (fun j oj hj hne hun hno=>?_) ?_ ⟨.inl ⟨?_,hu⟩,fun w=>?_⟩ hnext
  ·unfold qqj at hfree
   rw [ho] at hfree;have hjs:=(Array.getElem?_eq_some_iff.1 hj).1;have:=List.all_eq_true.1 hfree j (List.mem_range.2 hjs);simp only [Bool.or_eq_true,beq_iff_eq,hj] at this
   rcases this with ((h | h) | h) | h
   ·exact absurd h hne
   ·have hx:=hlist j hjs
    rw [qb5 (by omega)] at hun;rw [hun,h] at hx;cases hx
   ·exfalso
    have h:i∈da ops j:=by simpa using h
    simp only [da,hj,List.mem_map,List.mem_filter] at h;obtain ⟨e,⟨he,hb⟩,hei⟩:=h;exact hno e (by simpa using he) hb hei
   exact h
  ·refine mem_ready.2 ⟨by rw [qb5 (by omega)]; exact hin,o,ho,fun e he hb=>?_⟩
   have hk:e.on∈da ops i:=by
    simp only [da,ho,List.mem_map,List.mem_filter];exact ⟨e,⟨by simpa using he,hb⟩,rfl⟩
   rw [hlist _ (Nat.lt_trans (hda' i his _ hk) his)];exact hready _ hk
  ·unfold Region.wanted
   rw [hg']
  unfold Oper.about;split
  ·rename_i c h; exact absurd h (hnc c)
  rfl
end
theorem qmf {S X:Type} {body:S→Option (Stp S X)} {Q:X→Prop} (n:Nat) (I:Nat→S→Prop)
  (step:∀ i s,i<n→I i s→(∃ s',body s=some (.next s')∧I (i+1) s')∨∃ x,body s=some (.exit x)∧Q x) (fin:∀ s,I n s→∃ x,body s=some (.exit x)∧Q x) :
  ∀ (k:Nat) (s:S),k≤n→I k s→∃ x,loopW body s=some x∧Q x:=by
 intro k s hk h;obtain ⟨d,rfl⟩:∃ d,n=k+d:=⟨n - k,by omega⟩
 induction d generalizing k s with
 | zero =>
  obtain ⟨x,h1,h2⟩:=fin s h;exact ⟨x,qd1 h1,h2⟩
 | succ d ih =>
  rcases step k s (by omega) h with ⟨s',h1,h2⟩ | ⟨x,h1,h2⟩
  ·have e:k+(d+1)=(k+1)+d:=by omega
   rw [e] at step fin;obtain ⟨x,h3,h4⟩:=ih (k+1) s' h2 step fin (by omega);exact ⟨x,by rw [qgx h1]; exact h3,h4⟩
  exact ⟨x,qd1 h1,h2⟩
theorem qhn {S X:Type} {body:S→Option (Stp S X)} (st:Nat→S) (n:Nat) (p:Nat→Bool) (xr xf:X) (h:∀ i,i<n→body (st i)=if p i=true then some (.exit xr) else some (.next (st (i+1)))) (hf:body (st n)=some (.exit xf)) {s0:S} (hs0:s0=st 0) :
  loopW body s0=some (if (List.range n).any p=true then xr else xf):=by
 subst hs0
 obtain ⟨x,hx,hq⟩:=qmf (body:=body) (Q:=fun x=>x=if (List.range n).any p=true then xr else xf) n (fun i s=>s=st i∧(List.range i).any p=false) (fun i s hi ⟨hs,ha⟩=>by
  subst hs;rw [h i hi];by_cases hp:p i=true
  ·refine .inr ⟨xr,by rw [if_pos hp],?_⟩
   rw [if_pos];exact List.any_eq_true.2 ⟨i,List.mem_range.2 hi,hp⟩
  refine .inl ⟨_,by rw [if_neg hp],rfl,?_⟩;rw [List.range_succ,List.any_append,ha]
  simpa using hp) (fun s ⟨hs,ha⟩=>by subst hs; exact ⟨xf,hf,by rw [if_neg]; rw [ha]; simp⟩) 0 (st 0) (Nat.zero_le _) ⟨rfl,rfl⟩
 rw [hx,hq]
theorem qch {S X:Type} {body:S→Option (Stp S X)} (st:Nat→S) (n:Nat) (x:X) (h:∀ i,i<n→body (st i)=some (.next (st (i+1)))) (hf:body (st n)=some (.exit x)) {s0:S} (hs0:s0=st 0):loopW body s0=some x:=by
 subst hs0;obtain ⟨y,hy,hq⟩:=qmf (body:=body) (Q:=fun y=>y=x) n (fun i s=>s=st i) (fun i s hi hs=>by subst hs; exact .inl ⟨_,h i hi,rfl⟩) (fun s hs=>by subst hs; exact ⟨x,hf,rfl⟩) 0 (st 0) (Nat.zero_le _) rfl;rw [hy,hq]
theorem qfn {X R:Type} {o:Option X} {x:X} {M:X→Option R} {r:Option R} (h:o=some x) (k:M x=r):o.bind M=r:=by rw [h]; exact k
theorem lpL {V R Y:Type} {o:Option (Ou V R)} {x:Ou V R} {M:V→Option Y} {Rt:R→Option Y} {r:Option Y} (h:o=some x) (k:lpO (some x) M Rt=r):lpO o M Rt=r:=by rw [h]; exact k
theorem nx {i n:Nat} (hn:n≤9223372036854775807) (h:i<n):IntKind.wrap .i64 ((i:Int)+1)=((i+1:Nat):Int):=by
 rw [w64 (by omega) (by omega)]; omega
theorem ix {α:Type} {l:List α} {i:Nat} (h:i<l.length):idx l (i:Int)=some l[i]:=by rw [qgh,List.getElem?_eq_getElem h]
theorem qbJ {i n:Nat} (h:i<n):(i:Int)<(n:Int):=by omega
theorem qaB (n:Nat):¬ (n:Int)<(n:Int):=by omega
abbrev qaq:=Int × Int × Int
abbrev qbi (x:qaq):List HV:=[HV.int .i64 x.1,HV.int .i64 x.2.1,HV.int .i64 x.2.2]
abbrev eFromLabelTo:EncL qaq:=encF 3 qbi (fun _=>rfl)
abbrev qaa:=Int × Int × (List (qaq))
abbrev qaY (l:List Int):List Int:=Lib.compact l
theorem qkb (l:List Int):(qaY l).length≤l.length:=by
 show (Lib.compactUpTo l.toArray l.length).length≤l.length;unfold Lib.compactUpTo;rw [List.length_map];exact Nat.le_trans (List.length_filter_le _ _) (by simp)
theorem qju {l:List Int} {x:Int} (h:x∈qaY l):x∈l:=by
 have h:x∈Lib.compactUpTo l.toArray l.length:=h;unfold Lib.compactUpTo at h;obtain ⟨j,hj,rfl⟩:=List.mem_map.1 h;have hj:=List.mem_range.1 (List.mem_filter.1 hj).1
 have:l.toArray[j]! = l[j]:=by simp [hj]
 rw [this];exact List.getElem_mem hj
def qaH (l:List UInt8) (c:Int):Option Int:=some (Lib.indexByte l c.toNat.toUInt8)
def qeL (es:List qaq) (s:Int):List (Int × qaq):=(es.zipIdx.filter fun p=>decide (p.1.1=s)).map fun p=>((p.2:Int),p.1)
theorem qmi (es:List qaq) (s:Int) {i:Nat} (h:i<es.length):qeL (es.take (i+1)) s=qeL (es.take i) s++if es[i].1=s then [((i:Int),es[i])] else []:=by
 have e:es.take (i+1)=es.take i++[es[i]]:=by rw [List.take_add_one,List.getElem?_eq_getElem h]; rfl
 rw [e];simp only [qeL,List.zipIdx_append,List.filter_append,List.map_append,List.length_take,Nat.min_eq_left (Nat.le_of_lt h),Nat.zero_add]
 congr 1
 by_cases hs:es[i].1=s <;> simp [List.zipIdx_cons,hs]
theorem qlk (es:List qaq) (s:Int):∀ (i:Nat),∃ rest,qeL es s=qeL (es.take i) s++rest:=fun i=>by
 refine ⟨((es.drop i).zipIdx (es.take i).length |>.filter fun p=>decide (p.1.1=s)).map fun p=>((p.2:Int),p.1),?_⟩
 conv=>lhs; rw [← List.take_append_drop i es]
 simp only [qeL,List.zipIdx_append,List.filter_append,List.map_append,Nat.zero_add]
def qcQ (g:qaa) (s:Int):Option (List (Int × qaq)):=if g.2.2.length≤9223372036854775807 then some (qeL g.2.2 s) else none
abbrev qbd:=(List UInt8) × (List (Int))
def qd7 (p0:qaq):Option ((List (Int))) :=
 some [p0.1,p0.2.1,p0.2.2]
def qb4 (p0:Int):Option (Bool) :=
 some (decide (p0≠p0))
def qa3 (p0:Int) (p1:Int):Option (Int) :=
 (qb4 p0).bind fun x1 =>
 (qb4 p1).bind fun x3 =>
 if x1=true then
  if x3=true then
   some 0
  else
   some (-1)
 else
  if x3=true then
   some 1
  else
   if p0<p1 then
    some (-1)
   else
    if p1<p0 then
     some 1
    else
     some 0
def qbD (p0:List (Int)) (p1:List (Int)):Option (Int) :=
 lpO (loopW (S:=Int) (X:=Ou (Unit) (Int)) (fun a1 =>
   if a1<((p0).length:Int) then
    (idx p0 a1).bind fun x5 =>
    if ((p1).length:Int)≤a1 then
     some (Stp.exit (Ou.ret 1))
    else
     (idx p1 a1).bind fun x7 =>
     (qa3 x5 x7).bind fun x9 =>
     if x9≠0 then
      some (Stp.exit (Ou.ret x9))
     else
      some (Stp.next (IntKind.wrap .i64 (a1+1)))
   else
    some (Stp.exit (Ou.go ()))) 0) (fun a11 =>
   if ((p0).length:Int)<((p1).length:Int) then
    some (-1)
   else
    some 0) some
def qbG (p0:qaq) (p1:qaq):Option (Int) :=
 (qd7 p0).bind fun x1 =>
 (qd7 p1).bind fun x3 =>
 (qbD x1 x3).bind fun x5 =>
 some x5
def qbE (p0 : qaa):Option (Int) :=
 jp (fun (a1 : Bool) =>
  if a1=true then
   some 12
  else
   if p0.2.1<0 then
    some 2
   else
    jp (fun (a4:Bool) =>
     if a4=true then
      some 4
     else
      lpO (loopW (S:=Int) (X:=Ou (Unit) (Int)) (fun a7 =>
        if a7<((p0.2.2).length:Int) then
         (idx p0.2.2 a7).bind fun x11 =>
         jp (fun (a14:Bool) =>
          if a14=true then
           some (Stp.exit (Ou.ret 2))
          else
           jp (fun (a17:Bool) =>
            if a17=true then
             some (Stp.exit (Ou.ret 10))
            else
             some (Stp.next (IntKind.wrap .i64 (a7+1))))
            fun k19 =>
            if 0<a7 then
             (idx p0.2.2 (IntKind.wrap .i64 (a7 - 1))).bind fun x20 =>
             (qbG x20 x11).bind fun x22 =>
             k19 (decide (0≤x22))
            else
             k19 false)
          fun k16 =>
          if (min (min x11.1 x11.2.1) x11.2.2)<0 then
           k16 true
          else
           if p0.2.1≤(max x11.1 x11.2.2) then
            k16 true
           else
            k16 (decide (p0.1≤x11.2.1))
        else
         some (Stp.exit (Ou.go ()))) 0) (fun a27 =>
        some 0) some)
     fun k6 =>
     if 64<p0.2.1 then
      k6 true
     else
      k6 (decide (1024<((p0.2.2).length:Int))))
  fun k3 =>
  if p0.1<1 then
   k3 true
  else
   k3 (decide (256<p0.1))
def qcJ (p0:qaa) (p1:List (Int)):Option (Int) :=
 lpO (loopW (S:=Int) (X:=Ou (Unit) (Int)) (fun a1 =>
   if a1<((p1).length:Int) then
    (idx p1 a1).bind fun x5 =>
    jp (fun (a7:Bool) =>
     if a7=true then
      some (Stp.exit (Ou.ret 25))
     else
      jp (fun (a10:Bool) =>
       if a10=true then
        some (Stp.exit (Ou.ret 10))
       else
        some (Stp.next (IntKind.wrap .i64 (a1+1))))
       fun k12 =>
       if 0<a1 then
        (idx p1 (IntKind.wrap .i64 (a1 - 1))).bind fun x13 =>
        k12 (decide (x5≤x13))
       else
        k12 false)
     fun k9 =>
     if x5<0 then
      k9 true
     else
      k9 (decide (p0.2.1≤x5))
   else
    some (Stp.exit (Ou.go ()))) 0) (fun a17 =>
   some 0) some
def qdE (p0 : qaa) (p1:List (Int)) (p2:Int):Option ((List (Int)) × Int) :=
 (qbE p0).bind fun x1 =>
 if x1≠0 then
  some ([],1)
 else
  (qcJ p0 p1).bind fun x3 =>
  if x3≠0 then
   some ([],x3)
  else
   jp (fun (a5:Bool) =>
    if a5=true then
     some ([],2)
    else
     (loopW (S:=Int × (List Int)) (X:=(List Int)) (fun a9 =>
       if a9.1<((p1).length:Int) then
        (idx p1 a9.1).bind fun x13 =>
        (qcQ p0 x13).bind fun L15 =>
        lpO (forL (S:=(List Int)) (X:=Unit) (fun a17 (x19:Int × qaq) =>
          if x19.2.2.1=p2 then
           if fits 8 ((a17:List Int).length+([x19.2.2.2]).length) then
            some (Stp.next (a17++[x19.2.2.2]))
           else none
          else
           some (Stp.next a17)) L15 a9.2) (fun a26 =>
          some (Stp.next (IntKind.wrap .i64 (a9.1+1),a26))) fun a28 =>
          none
       else
        some (Stp.exit a9.2)) (0,([]:List Int))).bind fun a31 =>
     if (a31).length<4611686018427387904 then
      some (qaY (sortI a31),0)
     else none)
    fun k7 =>
    if p2<0 then
     k7 true
    else
     k7 (decide (p0.1≤p2))
def qeJ (p0:qaq) (p1:qaq):Option (Int) :=
 lpO (loopW (S:=Int) (X:=Ou (Unit) (Int)) (fun a1 =>
   if a1<3 then
    (idx [p0.1,p0.2.1,p0.2.2] a1).bind fun x5 =>
    (idx [p1.1,p1.2.1,p1.2.2] a1).bind fun x7 =>
    if x5<x7 then
     some (Stp.exit (Ou.ret (-1)))
    else
     (idx [p0.1,p0.2.1,p0.2.2] a1).bind fun x9 =>
     (idx [p1.1,p1.2.1,p1.2.2] a1).bind fun x11 =>
     if x11<x9 then
      some (Stp.exit (Ou.ret 1))
     else
      some (Stp.next (IntKind.wrap .i64 (a1+1)))
   else
    some (Stp.exit (Ou.go ()))) 0) (fun a13 =>
   some 0) some
def qa1 (p0 : qaa):Option (Int) :=
 jp (fun (a1 : Bool) =>
  if a1=true then
   some 12
  else
   if p0.2.1<0 then
    some 2
   else
    jp (fun (a4:Bool) =>
     if a4=true then
      some 4
     else
      lpO (loopW (S:=Int) (X:=Ou (Unit) (Int)) (fun a7 =>
        if a7 < ((p0.2.2).length:Int) then
         (idx p0.2.2 a7).bind fun x11 =>
         jp (fun (a14:Bool) =>
          if a14=true then
           some (Stp.exit (Ou.ret 2))
          else
           jp (fun (a17:Bool) =>
            if a17=true then
             some (Stp.exit (Ou.ret 10))
            else
             some (Stp.next (IntKind.wrap .i64 (a7+1))))
            fun k19 =>
            if 0<a7 then
             (idx p0.2.2 (IntKind.wrap .i64 (a7 - 1))).bind fun x20 =>
             (qeJ x20 x11).bind fun x22 =>
             k19 (decide (0≤x22))
            else
             k19 false)
          fun k16 =>
          if x11.1<0 then
           k16 true
          else
           if p0.2.1≤x11.1 then
            k16 true
           else
            if x11.2.2<0 then
             k16 true
            else
             if p0.2.1≤x11.2.2 then
              k16 true
             else
              if x11.2.1<0 then
               k16 true
              else
               k16 (decide (p0.1≤x11.2.1))
        else
         some (Stp.exit (Ou.go ()))) 0) (fun a30 =>
        some 0) some)
     fun k6 =>
     if 64<p0.2.1 then
      k6 true
     else
      k6 (decide (1024<((p0.2.2).length:Int))))
  fun k3 =>
  if p0.1<1 then
   k3 true
  else
   k3 (decide (256<p0.1))
def qc4 (p0:qaa):Option (Int) :=
 (qa1 p0).bind fun x1 =>
 if x1≠0 then
  some 1
 else
  if 16<p0.1 then
   some 12
  else
   some 0
def qb1 (p0:qaa) (p1:Int):Option (Int) :=
 (qc4 p0).bind fun x1 =>
 if x1≠0 then
  some x1
 else
  jp (fun (a3:Bool) =>
   if a3=true then
    some 2
   else
    some 0)
   fun k5 =>
   if p1<0 then
    k5 true
   else
    k5 (decide (4096<p1))
def qfv (p0:List (Int)) (p1:Int):Option (Bool) :=
 lpO (loopW (S:=Int) (X:=Ou (Unit) (Bool)) (fun a1 =>
   if a1<((p0).length:Int) then
    (idx p0 a1).bind fun x5 =>
    if x5=p1 then
     some (Stp.exit (Ou.ret true))
    else
     some (Stp.next (IntKind.wrap .i64 (a1+1)))
   else
    some (Stp.exit (Ou.go ()))) 0) (fun a7 =>
   some false) some
def qeW (p0 : qaa) (p1:List (Int)) (p2:Int):Option ((List (Int))) :=
 (loopW (S := Int × (List Int)) (X:=(List Int)) (fun a2 =>
   if a2.1 < p0.2.1 then
    jp (fun (a6:(List Int)) =>
     some (Stp.next (IntKind.wrap .i64 (a2.1+1),a6)))
     fun k8 =>
     (loopW (S:=Bool × Int) (X:=Bool) (fun a9 =>
       if a9.2<((p0.2.2).length:Int) then
        jp (fun (a13:Bool) =>
         some (Stp.next (a13,IntKind.wrap .i64 (a9.2+1))))
         fun k15 =>
         jp (fun (a16:Bool) =>
          if a16=true then
           k15 true
          else
           k15 a9.1)
          fun k18 =>
          (idx p0.2.2 a9.2).bind fun x19 =>
          if x19.2.2=a2.1 then
           (idx p0.2.2 a9.2).bind fun x21 =>
           if x21.2.1=p2 then
            (idx p0.2.2 a9.2).bind fun x23 =>
            (qfv p1 x23.1).bind fun x25 =>
            k18 x25
           else
            k18 false
          else
           k18 false
       else
        some (Stp.exit a9.1)) (false,0)).bind fun a29 =>
     if a29=true then
      if fits 8 ((a2.2:List Int).length+([a2.1]).length) then
       k8 (a2.2++[a2.1])
      else none
     else
      k8 a2.2
   else
    some (Stp.exit a2.2)) (0,[])).bind fun a33 =>
 some a33
def qcU (p0 : qaa) (p1:List (qbd)):Option ((List (qbd))) :=
 (loopW (S := Int × (List qbd)) (X:=(List qbd)) (fun a2 =>
   if a2.1 < ((p1).length:Int) then
    (loopW (S:=Int × (List qbd)) (X:=(List qbd)) (fun a6 =>
      if a6.1<p0.1 then
       jp (fun (a10:(List qbd)) =>
        some (Stp.next (IntKind.wrap .i64 (a6.1+1),a10)))
        fun k12 =>
        (idx p1 a2.1).bind fun x13 =>
        (qeW p0 x13.2 a6.1).bind fun x15 =>
        if 0<((x15).length:Int) then
         (idx p1 a2.1).bind fun x17 =>
         if 0≤(a6.1:Int)∧(a6.1:Int)≤IntKind.wrap .i64 (a6.1+1)∧IntKind.wrap .i64 (a6.1+1)≤(([48,49,50,51,52,53,54,55,56,57,97,98,99,100,101,102]:List UInt8).length:Int) then
          if x17.1.length+((([48,49,50,51,52,53,54,55,56,57,97,98,99,100,101,102]:List UInt8).take (IntKind.wrap .i64 (a6.1+1)).toNat).drop (a6.1).toNat).length≤maxLen then
           if fits 40 ((a6.2:List qbd).length+([(x17.1++((([48,49,50,51,52,53,54,55,56,57,97,98,99,100,101,102]:List UInt8).take (IntKind.wrap .i64 (a6.1+1)).toNat).drop (a6.1).toNat),x15)]).length) then
            k12 (a6.2++[(x17.1++((([48,49,50,51,52,53,54,55,56,57,97,98,99,100,101,102]:List UInt8).take (IntKind.wrap .i64 (a6.1+1)).toNat).drop (a6.1).toNat),x15)])
           else none
          else none
         else none
        else
         k12 a6.2
      else
       some (Stp.exit a6.2)) (0,a2.2)).bind fun a23 =>
    some (Stp.next (IntKind.wrap .i64 (a2.1+1),a23))
   else
    some (Stp.exit a2.2)) (0,[])).bind fun a25 =>
 some a25
def qft (p0:qaa) (p1:List (Int)) (p2:Int):Option ((List (qbd)) × Int) :=
 jp (fun (a2:(List qbd)) =>
  lpO (loopW (S:=(List qbd) × Int) (X:=Ou ((List qbd)) ((List (qbd)) × Int)) (fun a5 =>
    jp (fun (a9:Bool) =>
     if a9=true then
      (qcU p0 a5.1).bind fun x12 =>
      if 4096<((x12).length:Int) then
       some (Stp.exit (Ou.ret ([],4)))
      else
       some (Stp.next (x12,IntKind.wrap .i64 (a5.2+1)))
     else
      some (Stp.exit (Ou.go a5.1)))
     fun k11 =>
     if a5.2<p2 then
      k11 (decide (0<((a5.1).length:Int)))
     else
      k11 false) (a2,0)) (fun a15 =>
    some (a15,0)) some)
  fun k4 =>
  if 0<((p1).length:Int) then
   if fits 40 (([]:List qbd).length+([(([]:List UInt8),p1)]).length) then
    k4 (([]:List qbd)++[(([]:List UInt8),p1)])
   else none
  else
   k4 []
def qfw (p0:qaa):Option ((List (Int))) :=
 (loopW (S:=Int × (List Int)) (X:=(List Int)) (fun a2 =>
   if a2.1<p0.2.1 then
    if fits 8 ((a2.2:List Int).length+([a2.1]).length) then
     some (Stp.next (IntKind.wrap .i64 (a2.1+1),a2.2++[a2.1]))
    else none
   else
    some (Stp.exit a2.2)) (0,[])).bind fun a8 =>
 some a8
def qfu (p0:List (qbd)):Option ((List (List UInt8))) :=
 (loopW (S:=Int × (List (List UInt8))) (X:=(List (List UInt8))) (fun a2 =>
   if a2.1<((p0).length:Int) then
    (idx p0 a2.1).bind fun x6 =>
    if fits 16 ((a2.2:List (List UInt8)).length+([x6.1]).length) then
     some (Stp.next (IntKind.wrap .i64 (a2.1+1),a2.2++[x6.1]))
    else none
   else
    some (Stp.exit a2.2)) (0,[])).bind fun a10 =>
 some a10
def qer (p0:qaa) (p1:Int):Option ((List (List UInt8)) × Int) :=
 (qb1 p0 p1).bind fun x1 =>
 if x1≠0 then
  some ([],x1)
 else
  (qfw p0).bind fun x3 =>
  (qft p0 x3 p1).bind fun x5 =>
  if x5.2≠0 then
   some ([],x5.2)
  else
   (qfu x5.1).bind fun x7 =>
   some (x7,0)
def qbl (p0:qaa) (p1:List (Int)) (p2:Int):Option ((List (Int))) :=
 (qaH [48,49,50,51,52,53,54,55,56,57,97,98,99,100,101,102] p2).bind fun x1 =>
 (qdE p0 p1 x1).bind fun x3 =>
 some x3.1
def qbz (p0:qaa):Option ((List (Int))) :=
 if 0≤(p0.2.1:Int)∧(p0.2.1:Int)≤p0.2.1∧(p0.2.1:Int)*8≤281474976710656 then
  (loopW (S:=Int × (List Int)) (X:=(List Int)) (fun a3 =>
    if a3.1<(((List.replicate (p0.2.1).toNat (0:Int)).length:Nat):Int) then
     (idx a3.2 a3.1).bind fun x7 =>
     some (Stp.next (IntKind.wrap .i64 (a3.1+1),(a3.2).set (a3.1).toNat a3.1))
    else
     some (Stp.exit a3.2)) (0,List.replicate (p0.2.1).toNat (0:Int))).bind fun a9 =>
  some a9
 else none
def qbg (p0:qaa):Option (Int) :=
 (qbE p0).bind fun x1 =>
 if x1≠0 then
  some 1
 else
  if 16<p0.1 then
   some 12
  else
   some 0
def qcf (p0:qaa) (p1:Int):Option (Int) :=
 (qbg p0).bind fun x1 =>
 if x1≠0 then
  some x1
 else
  jp (fun (a3:Bool) =>
   if a3=true then
    some 2
   else
    some 0)
   fun k5 =>
   if p1<0 then
    k5 true
   else
    k5 (decide (4096<p1))
def qbR (p0:Int):Option (Bool) :=
 jp (fun (a1:Bool) =>
  some a1)
  fun k3 =>
  if 1≤p0 then
   k3 (decide (p0≤16))
  else
   k3 false
def qbq (p0:Int) (p1:List UInt8):Option (Int) :=
 (qbR p0).bind fun x1 =>
 if (!x1)=true then
  some 12
 else
  if 65536<((p1).length:Int) then
   some 4
  else
   lpO (loopW (S:=Int) (X:=Ou (Unit) (Int)) (fun a3 =>
     if a3<((p1).length:Int) then
      if 0≤(0:Int)∧(0:Int)≤p0∧p0≤(([48,49,50,51,52,53,54,55,56,57,97,98,99,100,101,102]:List UInt8).length:Int) then
       (idx p1 a3).bind fun x8 =>
       (qaH ((([48,49,50,51,52,53,54,55,56,57,97,98,99,100,101,102]:List UInt8).take (p0).toNat).drop (0:Int).toNat) (x8.toNat:Int)).bind fun x10 =>
       if x10<0 then
        some (Stp.exit (Ou.ret 13))
       else
        some (Stp.next (IntKind.wrap .i64 (a3+1)))
      else none
     else
      some (Stp.exit (Ou.go ()))) 0) (fun a12 =>
     some 0) some
def qbA (p0:qaa) (p1:List UInt8):Option (Int) :=
 (qbg p0).bind fun x1 =>
 if x1≠0 then
  some x1
 else
  (qbq p0.1 p1).bind fun x3 =>
  some x3
abbrev qpy:=Bool × (List UInt8)
def qb0 (s sub:List UInt8):Option Int:=match sub with
 | [c]=>some ((Lib.countByte s c:Nat):Int)
 | _=>none
abbrev qrX:=qpy × qpy
abbrev qtg (x:qrX):List HV:=[HV.bool x.1.1,HV.str x.1.2,HV.bool x.2.1,HV.str x.2.2]
abbrev hI (n:Int):HV:=.int .i64 n
abbrev nS:List UInt8:=[]
abbrev jF (j:List (List UInt8) × List (List UInt8)):HV:=.fptr [slE eStr j.1,slE eStr j.2] 0
abbrev jA (j:List (List UInt8) × List (List UInt8)):HV:=.agg [slE eStr j.1,slE eStr j.2]
abbrev gF (g:qaa):HV:=.fptr [.int .i64 g.1,.int .i64 g.2.1,slE eFromLabelTo g.2.2] 0
abbrev gA (g:qaa):HV:=.agg [.int .i64 g.1,.int .i64 g.2.1,slE eFromLabelTo g.2.2]
abbrev zND:List HV:=[.bool false,.str [],.bool false,.str []]
theorem to_L {s s':AS} {G:AS→Prop} (h:G s') (h1:gets s.slots s'.slots=qnE s'.slots:=by exact rfl) (h2:qnV s.heap s'.heap=qj4 s'.heap:=by exact rfl):s.to G:=qaZ (le_q h1 h2) h
theorem bf {P:Program} {ro:Option Nat} {N:Nat} {all:Array Oper} {s:AS} {c:Code} {Q:Exit→AS→Prop} {K:AS→Prop} (hK:∀ s',AW P ro N c Q s'→K s') (s':AS) (h:AW P ro N c Q s') (h1:gets s.slots s'.slots=qnE s'.slots:=by exact rfl) (h2:qnV s.heap s'.heap=qj4 s'.heap:=by exact rfl):bops P ro N all [] K s:=qmw hK (le_q h1 h2) h
theorem lg {P:Program} {ro:Option Nat} {N:Nat} {ops:Array Oper} {s s':AS} {K:AS→Prop} {F:List Nat→AS→Prop} {L L':List Nat} (hF:F=AnyL P ro N ops K) (h:F L' s') (hsame:(List.range ops.size).all (fun i=>L.contains i == L'.contains i)=true:=by exact rfl) (h1:gets s.slots s'.slots=qnE s'.slots:=by exact rfl) (h2:qnV s.heap s'.heap=qj4 s'.heap:=by exact rfl):F L s:=l_go hF hsame h (le_q h1 h2)
theorem cT {p:Prop} [Decidable p] {R:Type} {a b:Option R} {r:R} (hc:decide p=true) (h:(if p then a else b)=some r):p∧a=some r:=⟨of_decide_eq_true hc,ifT (of_decide_eq_true hc) h⟩
theorem cF {p:Prop} [Decidable p] {R:Type} {a b:Option R} {r:R} (hc:decide p=false) (h:(if p then a else b)=some r):¬ p∧b=some r:=⟨of_decide_eq_false hc,ifF (of_decide_eq_false hc) h⟩
theorem lb {n m:Nat} (h:Nat.ble n m=true):n≤m:=Nat.le_of_ble_eq_true h
theorem l_ov {P:Program} {ro:Option Nat} {N i d:Nat} {ops:Array Oper} {o:Oper} {G:AS→Prop} {v:HV} {sl:List (Nat × HV)} {H:Heap} (ho:ops[i]?=some o) (hg:o.guard=none) (hN:okd N o.dst=true) (h0:(o.dst,qkQ o.op)=(some d,true)) (hv:aval P o.op ⟨sl,H⟩ (· = v)) (k:G ⟨(d,v)::sl,H⟩):AOpI P ro N ops i G ⟨sl,H⟩:=l_op (fid:=0) (mt:=[]) ho hg hN (qai h0 hv (qab k))
theorem oi {α:Type} {a b:α} (h:some a=some b):a=b:=Option.some.inj h
abbrev ASf:=List (Nat × HV)→Heap→AS
open Go.Proofs
theorem ty2:ty Tryz.prog 2=some { desc:=TypeDesc.int IntKind.i64,size:=1,bytes:=8,zero:=Value.int IntKind.i64 (0) }:=by kernel_rfl
theorem ty3:ty Tryz.prog 3=some { desc:=TypeDesc.int IntKind.i64,size:=1,bytes:=8,zero:=Value.int IntKind.i64 (0) }:=by kernel_rfl
theorem ty4:ty Tryz.prog 4=some { desc:=TypeDesc.bool,size:=1,bytes:=1,zero:=Value.bool false }:=by kernel_rfl
theorem ty5:ty Tryz.prog 5=some { desc:=TypeDesc.int IntKind.u8,size:=1,bytes:=1,zero:=Value.int IntKind.u8 (0) }:=by kernel_rfl
theorem ty6:ty Tryz.prog 6=some { desc:=TypeDesc.int IntKind.u8,size:=1,bytes:=1,zero:=Value.int IntKind.u8 (0) }:=by kernel_rfl
theorem ty9:ty Tryz.prog 9=some { desc:=TypeDesc.string,size:=1,bytes:=16,zero:=Value.string { data:=#[] } }:=by kernel_rfl
theorem ty10:ty Tryz.prog 10=some { desc:=TypeDesc.string,size:=1,bytes:=16,zero:=Value.string { data:=#[] } }:=by kernel_rfl
theorem ty11:ty Tryz.prog 11=some { desc:=TypeDesc.string,size:=1,bytes:=16,zero:=Value.string { data:=#[] } }:=by kernel_rfl
theorem ty12:ty Tryz.prog 12=some { desc:=TypeDesc.int IntKind.u64,size:=1,bytes:=8,zero:=Value.int IntKind.u64 (0) }:=by kernel_rfl
theorem ty15:ty Tryz.prog 15=some { desc:=TypeDesc.pointer 207,size:=1,bytes:=8,zero:=Value.pointer none }:=by kernel_rfl
theorem ty16:ty Tryz.prog 16=some { desc:=TypeDesc.pointer 210,size:=1,bytes:=8,zero:=Value.pointer none }:=by kernel_rfl
theorem ty17:ty Tryz.prog 17=some { desc:=TypeDesc.pointer 217,size:=1,bytes:=8,zero:=Value.pointer none }:=by kernel_rfl
theorem ty21:ty Tryz.prog 21=some { desc:=TypeDesc.int IntKind.i32,size:=1,bytes:=4,zero:=Value.int IntKind.i32 (0) }:=by kernel_rfl
theorem ty22:ty Tryz.prog 22=some { desc:=TypeDesc.slice 9,size:=1,bytes:=24,zero:=Value.slice none 0 0 }:=by kernel_rfl
theorem ty23:ty Tryz.prog 23=some { desc:=TypeDesc.struct { toList:=[{ name := "Words", type:=22,offset:=0,embedded:=false,tag := "", pkgPath := "", byteOffset:=0 },{ name := "Merges", type:=22,offset:=1,embedded:=false,tag := "", pkgPath := "", byteOffset:=24 }] },size:=2,bytes:=48,zero:=Value.agg #[Value.slice none 0 0,Value.slice none 0 0] }:=by kernel_rfl
theorem ty24:ty Tryz.prog 24=some { desc:=TypeDesc.struct { toList:=[{ name := "Words", type:=22,offset:=0,embedded:=false,tag := "", pkgPath := "", byteOffset:=0 },{ name := "Merges", type:=22,offset:=1,embedded:=false,tag := "", pkgPath := "", byteOffset:=24 }] },size:=2,bytes:=48,zero:=Value.agg #[Value.slice none 0 0,Value.slice none 0 0] }:=by kernel_rfl
theorem ty25:ty Tryz.prog 25=some { desc:=TypeDesc.slice 35,size:=1,bytes:=24,zero:=Value.slice none 0 0 }:=by kernel_rfl
theorem ty26:ty Tryz.prog 26=some { desc:=TypeDesc.struct { toList:=[{ name := "Labels", type:=3,offset:=0,embedded:=false,tag := "", pkgPath := "", byteOffset:=0 },{ name := "States", type:=3,offset:=1,embedded:=false,tag := "", pkgPath := "", byteOffset:=8 },{ name := "Edges", type:=25,offset:=2,embedded:=false,tag := "", pkgPath := "", byteOffset:=16 }] },size:=3,bytes:=40,zero:=Value.agg #[Value.int IntKind.i64 (0),Value.int IntKind.i64 (0),Value.slice none 0 0] }:=by kernel_rfl
theorem ty27:ty Tryz.prog 27=some { desc:=TypeDesc.struct { toList:=[{ name := "Labels", type:=3,offset:=0,embedded:=false,tag := "", pkgPath := "", byteOffset:=0 },{ name := "States", type:=3,offset:=1,embedded:=false,tag := "", pkgPath := "", byteOffset:=8 },{ name := "Edges", type:=25,offset:=2,embedded:=false,tag := "", pkgPath := "", byteOffset:=16 }] },size:=3,bytes:=40,zero:=Value.agg #[Value.int IntKind.i64 (0),Value.int IntKind.i64 (0),Value.slice none 0 0] }:=by kernel_rfl
theorem ty28:ty Tryz.prog 28=some { desc:=TypeDesc.slice 5,size:=1,bytes:=24,zero:=Value.slice none 0 0 }:=by kernel_rfl
theorem ty31:ty Tryz.prog 31=some { desc:=TypeDesc.int IntKind.i64,size:=1,bytes:=8,zero:=Value.int IntKind.i64 (0) }:=by kernel_rfl
theorem ty34:ty Tryz.prog 34=some { desc:=TypeDesc.struct { toList:=[{ name := "From", type:=3,offset:=0,embedded:=false,tag := "", pkgPath := "", byteOffset:=0 },{ name := "Label", type:=3,offset:=1,embedded:=false,tag := "", pkgPath := "", byteOffset:=8 },{ name := "To", type:=3,offset:=2,embedded:=false,tag := "", pkgPath := "", byteOffset:=16 }] },size:=3,bytes:=24,zero:=Value.agg { toList:=[Value.int IntKind.i64 (0),Value.int IntKind.i64 (0),Value.int IntKind.i64 (0)] } }:=by kernel_rfl
theorem ty35:ty Tryz.prog 35=some { desc:=TypeDesc.struct { toList:=[{ name := "From", type:=3,offset:=0,embedded:=false,tag := "", pkgPath := "", byteOffset:=0 },{ name := "Label", type:=3,offset:=1,embedded:=false,tag := "", pkgPath := "", byteOffset:=8 },{ name := "To", type:=3,offset:=2,embedded:=false,tag := "", pkgPath := "", byteOffset:=16 }] },size:=3,bytes:=24,zero:=Value.agg { toList:=[Value.int IntKind.i64 (0),Value.int IntKind.i64 (0),Value.int IntKind.i64 (0)] } }:=by kernel_rfl
theorem ty36:ty Tryz.prog 36=some { desc:=TypeDesc.slice 3,size:=1,bytes:=24,zero:=Value.slice none 0 0 }:=by kernel_rfl
theorem ty58:ty Tryz.prog 58=some { desc:=TypeDesc.slice 107,size:=1,bytes:=24,zero:=Value.slice none 0 0 }:=by kernel_rfl
theorem ty59:ty Tryz.prog 59=some { desc:=TypeDesc.struct { toList:=[{ name := "Letters", type:=3,offset:=0,embedded:=false,tag := "", pkgPath := "", byteOffset:=0 },{ name := "Block", type:=3,offset:=1,embedded:=false,tag := "", pkgPath := "", byteOffset:=8 },{ name := "Base", type:=22,offset:=2,embedded:=false,tag := "", pkgPath := "", byteOffset:=16 },{ name := "Swaps", type:=58,offset:=3,embedded:=false,tag := "", pkgPath := "", byteOffset:=40 }] },size:=4,bytes:=64,zero:=Value.agg { toList:=[Value.int IntKind.i64 (0),Value.int IntKind.i64 (0),Value.slice none 0 0,Value.slice none 0 0] } }:=by kernel_rfl
theorem ty60:ty Tryz.prog 60=some { desc:=TypeDesc.struct { toList:=[{ name := "Letters", type:=3,offset:=0,embedded:=false,tag := "", pkgPath := "", byteOffset:=0 },{ name := "Block", type:=3,offset:=1,embedded:=false,tag := "", pkgPath := "", byteOffset:=8 },{ name := "Base", type:=22,offset:=2,embedded:=false,tag := "", pkgPath := "", byteOffset:=16 },{ name := "Swaps", type:=58,offset:=3,embedded:=false,tag := "", pkgPath := "", byteOffset:=40 }] },size:=4,bytes:=64,zero:=Value.agg { toList:=[Value.int IntKind.i64 (0),Value.int IntKind.i64 (0),Value.slice none 0 0,Value.slice none 0 0] } }:=by kernel_rfl
theorem ty64:ty Tryz.prog 64=some { desc:=TypeDesc.struct { toList:=[{ name := "Letters", type:=3,offset:=0,embedded:=false,tag := "", pkgPath := "", byteOffset:=0 },{ name := "Words", type:=22,offset:=1,embedded:=false,tag := "", pkgPath := "", byteOffset:=8 }] },size:=2,bytes:=32,zero:=Value.agg #[Value.int IntKind.i64 (0),Value.slice none 0 0] }:=by kernel_rfl
theorem ty65:ty Tryz.prog 65=some { desc:=TypeDesc.struct { toList:=[{ name := "Letters", type:=3,offset:=0,embedded:=false,tag := "", pkgPath := "", byteOffset:=0 },{ name := "Words", type:=22,offset:=1,embedded:=false,tag := "", pkgPath := "", byteOffset:=8 }] },size:=2,bytes:=32,zero:=Value.agg #[Value.int IntKind.i64 (0),Value.slice none 0 0] }:=by kernel_rfl
theorem ty67:ty Tryz.prog 67=some { desc:=TypeDesc.pointer 69,size:=1,bytes:=8,zero:=Value.pointer none }:=by kernel_rfl
theorem ty68:ty Tryz.prog 68=some { desc:=TypeDesc.struct { toList:=[{ name := "addr", type:=67,offset:=0,embedded:=false,tag := "", pkgPath := "strings", byteOffset:=0 },{ name := "buf", type:=28,offset:=1,embedded:=false,tag := "", pkgPath := "strings", byteOffset:=8 }] },size:=2,bytes:=32,zero:=Value.agg #[Value.pointer none,Value.slice none 0 0] }:=by kernel_rfl
theorem ty69:ty Tryz.prog 69=some { desc:=TypeDesc.struct { toList:=[{ name := "addr", type:=67,offset:=0,embedded:=false,tag := "", pkgPath := "strings", byteOffset:=0 },{ name := "buf", type:=28,offset:=1,embedded:=false,tag := "", pkgPath := "strings", byteOffset:=8 }] },size:=2,bytes:=32,zero:=Value.agg #[Value.pointer none,Value.slice none 0 0] }:=by kernel_rfl
theorem ty83:ty Tryz.prog 83=some { desc:=TypeDesc.func #[3] #[] false,size:=1,bytes:=8,zero:=Value.nilFunc }:=by kernel_rfl
theorem ty97:ty Tryz.prog 97=some { desc:=TypeDesc.func #[35] #[36] false,size:=1,bytes:=8,zero:=Value.nilFunc }:=by kernel_rfl
theorem qnB:ty Tryz.prog 103=some { desc:=TypeDesc.map 105 9,size:=1,bytes:=8,zero:=Value.map none }:=by kernel_rfl
theorem qnA:ty Tryz.prog 105=some { desc:=TypeDesc.array 2 3,size:=2,bytes:=16,zero:=Value.agg #[Value.int IntKind.i64 (0),Value.int IntKind.i64 (0)] }:=by kernel_rfl
theorem qs4:ty Tryz.prog 106=some { desc:=TypeDesc.struct { toList:=[{ name := "First", type:=3,offset:=0,embedded:=false,tag := "", pkgPath := "", byteOffset:=0 },{ name := "Second", type:=3,offset:=1,embedded:=false,tag := "", pkgPath := "", byteOffset:=8 },{ name := "Word", type:=9,offset:=2,embedded:=false,tag := "", pkgPath := "", byteOffset:=16 }] },size:=3,bytes:=32,zero:=Value.agg { toList:=[Value.int IntKind.i64 (0),Value.int IntKind.i64 (0),Value.string { data:=#[] }] } }:=by kernel_rfl
theorem qeD:ty Tryz.prog 107=some { desc:=TypeDesc.struct { toList:=[{ name := "First", type:=3,offset:=0,embedded:=false,tag := "", pkgPath := "", byteOffset:=0 },{ name := "Second", type:=3,offset:=1,embedded:=false,tag := "", pkgPath := "", byteOffset:=8 },{ name := "Word", type:=9,offset:=2,embedded:=false,tag := "", pkgPath := "", byteOffset:=16 }] },size:=3,bytes:=32,zero:=Value.agg { toList:=[Value.int IntKind.i64 (0),Value.int IntKind.i64 (0),Value.string { data:=#[] }] } }:=by kernel_rfl
theorem qbC:ty Tryz.prog 109=some { desc:=TypeDesc.map 116 3,size:=1,bytes:=8,zero:=Value.map none }:=by kernel_rfl
theorem qs3:ty Tryz.prog 110=some { desc:=TypeDesc.struct { toList:=[{ name := "c", type:=65,offset:=0,embedded:=false,tag := "", pkgPath := "groove/delay", byteOffset:=0 },{ name := "reach", type:=109,offset:=2,embedded:=false,tag := "", pkgPath := "groove/delay", byteOffset:=32 }] },size:=3,bytes:=40,zero:=Value.agg #[Value.int IntKind.i64 (0),Value.slice none 0 0,Value.map none] }:=by kernel_rfl
theorem qe5:ty Tryz.prog 111=some { desc:=TypeDesc.struct { toList:=[{ name := "c", type:=65,offset:=0,embedded:=false,tag := "", pkgPath := "groove/delay", byteOffset:=0 },{ name := "reach", type:=109,offset:=2,embedded:=false,tag := "", pkgPath := "groove/delay", byteOffset:=32 }] },size:=3,bytes:=40,zero:=Value.agg #[Value.int IntKind.i64 (0),Value.slice none 0 0,Value.map none] }:=by kernel_rfl
theorem qaR:ty Tryz.prog 113=some { desc:=TypeDesc.slice 116,size:=1,bytes:=24,zero:=Value.slice none 0 0 }:=by kernel_rfl
theorem qs2:ty Tryz.prog 115=some { desc:=TypeDesc.struct { toList:=[{ name := "first", type:=9,offset:=0,embedded:=false,tag := "", pkgPath := "groove/delay", byteOffset:=0 },{ name := "second", type:=9,offset:=1,embedded:=false,tag := "", pkgPath := "groove/delay", byteOffset:=16 }] },size:=2,bytes:=32,zero:=Value.agg #[Value.string { data:=#[] },Value.string { data:=#[] }] }:=by kernel_rfl
theorem qaJ:ty Tryz.prog 116=some { desc:=TypeDesc.struct { toList:=[{ name := "first", type:=9,offset:=0,embedded:=false,tag := "", pkgPath := "groove/delay", byteOffset:=0 },{ name := "second", type:=9,offset:=1,embedded:=false,tag := "", pkgPath := "groove/delay", byteOffset:=16 }] },size:=2,bytes:=32,zero:=Value.agg #[Value.string { data:=#[] },Value.string { data:=#[] }] }:=by kernel_rfl
theorem qs1:ty Tryz.prog 120=some { desc:=TypeDesc.pointer 5,size:=1,bytes:=8,zero:=Value.pointer none }:=by kernel_rfl
theorem qfU:ty Tryz.prog 121=some { desc:=TypeDesc.slice 36,size:=1,bytes:=24,zero:=Value.slice none 0 0 }:=by kernel_rfl
theorem qs0:ty Tryz.prog 125=some { desc:=TypeDesc.map 9 36,size:=1,bytes:=8,zero:=Value.map none }:=by kernel_rfl
theorem qiu:ty Tryz.prog 133=some { desc:=TypeDesc.map 9 4,size:=1,bytes:=8,zero:=Value.map none }:=by kernel_rfl
theorem qnz:ty Tryz.prog 138=some { desc:=TypeDesc.map 116 113,size:=1,bytes:=8,zero:=Value.map none }:=by kernel_rfl
theorem qr6:ty Tryz.prog 152=some { desc:=TypeDesc.func #[36] #[4] false,size:=1,bytes:=8,zero:=Value.nilFunc }:=by kernel_rfl
theorem qsZ:ty Tryz.prog 154=some { desc:=TypeDesc.int IntKind.u64,size:=1,bytes:=8,zero:=Value.int IntKind.u64 (0) }:=by kernel_rfl
theorem qsY:ty Tryz.prog 168=some { desc:=TypeDesc.int IntKind.u32,size:=1,bytes:=4,zero:=Value.int IntKind.u32 (0) }:=by kernel_rfl
theorem qsX:ty Tryz.prog 171=some { desc:=TypeDesc.int IntKind.u64,size:=1,bytes:=8,zero:=Value.int IntKind.u64 (0) }:=by kernel_rfl
theorem qsW:ty Tryz.prog 176=some { desc:=TypeDesc.int IntKind.i64,size:=1,bytes:=8,zero:=Value.int IntKind.i64 (0) }:=by kernel_rfl
theorem qny:ty Tryz.prog 185=some { desc:=TypeDesc.slice 186,size:=1,bytes:=24,zero:=Value.slice none 0 0 }:=by kernel_rfl
theorem qgZ:ty Tryz.prog 186=some { desc:=TypeDesc.slice 4,size:=1,bytes:=24,zero:=Value.slice none 0 0 }:=by kernel_rfl
theorem qsV:ty Tryz.prog 194=some { desc:=TypeDesc.int IntKind.u64,size:=1,bytes:=8,zero:=Value.int IntKind.u64 (0) }:=by kernel_rfl
theorem qsU:ty Tryz.prog 198=some { desc:=TypeDesc.pointer 3,size:=1,bytes:=8,zero:=Value.pointer none }:=by kernel_rfl
theorem qsT:ty Tryz.prog 202=some { desc:=TypeDesc.pointer 194,size:=1,bytes:=8,zero:=Value.pointer none }:=by kernel_rfl
theorem qsS:ty Tryz.prog 208=some { desc:=TypeDesc.array 0 16,size:=0,bytes:=0,zero:=Value.agg #[] }:=by kernel_rfl
theorem qsR:ty Tryz.prog 211=some { desc:=TypeDesc.int IntKind.u8,size:=1,bytes:=1,zero:=Value.int IntKind.u8 (0) }:=by kernel_rfl
theorem qsQ:ty Tryz.prog 212=some { desc:=TypeDesc.int IntKind.u8,size:=1,bytes:=1,zero:=Value.int IntKind.u8 (0) }:=by kernel_rfl
theorem qsP:ty Tryz.prog 214=some { desc:=TypeDesc.int IntKind.i32,size:=1,bytes:=4,zero:=Value.int IntKind.i32 (0) }:=by kernel_rfl
theorem qsO:ty Tryz.prog 215=some { desc:=TypeDesc.int IntKind.i32,size:=1,bytes:=4,zero:=Value.int IntKind.i32 (0) }:=by kernel_rfl
attribute [go_sem] ty2 ty3 ty4 ty5 ty6 ty9 ty10 ty11 ty12 ty15 ty16 ty17 ty21 ty22 ty23 ty24 ty25 ty26 ty27 ty28 ty31 ty34 ty35 ty36 ty58 ty59 ty60 ty64 ty65 ty67 ty68 ty69 ty83 ty97 qnB qnA qs4 qeD qbC qs3 qe5 qaR qs2 qaJ qs1 qfU qs0 qiu qnz qr6 qsZ qsY qsX qsW qny qgZ qsV qsU qsT qsS qsR qsQ qsP qsO
theorem follows:Tryz.prog.follows .mixedOrders=true:=by kernel_rfl
theorem qdb:qba Tryz.prog 24 0=some (0,{ desc:=TypeDesc.slice 9,size:=1,bytes:=24,zero:=Value.slice none 0 0 }):=by kernel_rfl
theorem qe0:qba Tryz.prog 24 1=some (1,{ desc:=TypeDesc.slice 9,size:=1,bytes:=24,zero:=Value.slice none 0 0 }):=by kernel_rfl
theorem qij:qba Tryz.prog 27 0=some (0,{ desc:=TypeDesc.int IntKind.i64,size:=1,bytes:=8,zero:=Value.int IntKind.i64 (0) }):=by kernel_rfl
theorem qfl:qba Tryz.prog 27 1=some (1,{ desc:=TypeDesc.int IntKind.i64,size:=1,bytes:=8,zero:=Value.int IntKind.i64 (0) }):=by kernel_rfl
theorem qea:qba Tryz.prog 27 2=some (2,{ desc:=TypeDesc.slice 35,size:=1,bytes:=24,zero:=Value.slice none 0 0 }):=by kernel_rfl
theorem qii:qba Tryz.prog 35 0=some (0,{ desc:=TypeDesc.int IntKind.i64,size:=1,bytes:=8,zero:=Value.int IntKind.i64 (0) }):=by kernel_rfl
theorem qj9:qba Tryz.prog 35 1=some (1,{ desc:=TypeDesc.int IntKind.i64,size:=1,bytes:=8,zero:=Value.int IntKind.i64 (0) }):=by kernel_rfl
theorem qlx:qba Tryz.prog 35 2=some (2,{ desc:=TypeDesc.int IntKind.i64,size:=1,bytes:=8,zero:=Value.int IntKind.i64 (0) }):=by kernel_rfl
theorem qm8:qba Tryz.prog 60 0=some (0,{ desc:=TypeDesc.int IntKind.i64,size:=1,bytes:=8,zero:=Value.int IntKind.i64 (0) }):=by kernel_rfl
theorem qlw:qba Tryz.prog 60 1=some (1,{ desc:=TypeDesc.int IntKind.i64,size:=1,bytes:=8,zero:=Value.int IntKind.i64 (0) }):=by kernel_rfl
theorem qj8:qba Tryz.prog 60 2=some (2,{ desc:=TypeDesc.slice 9,size:=1,bytes:=24,zero:=Value.slice none 0 0 }):=by kernel_rfl
theorem qm7:qba Tryz.prog 60 3=some (3,{ desc:=TypeDesc.slice 107,size:=1,bytes:=24,zero:=Value.slice none 0 0 }):=by kernel_rfl
theorem qj7:qba Tryz.prog 65 0=some (0,{ desc:=TypeDesc.int IntKind.i64,size:=1,bytes:=8,zero:=Value.int IntKind.i64 (0) }):=by kernel_rfl
theorem qgj:qba Tryz.prog 65 1=some (1,{ desc:=TypeDesc.slice 9,size:=1,bytes:=24,zero:=Value.slice none 0 0 }):=by kernel_rfl
theorem qqY:qba Tryz.prog 69 1=some (1,{ desc:=TypeDesc.slice 5,size:=1,bytes:=24,zero:=Value.slice none 0 0 }):=by kernel_rfl
theorem qgl:qba Tryz.prog 107 0=some (0,{ desc:=TypeDesc.int IntKind.i64,size:=1,bytes:=8,zero:=Value.int IntKind.i64 (0) }):=by kernel_rfl
theorem qgk:qba Tryz.prog 107 1=some (1,{ desc:=TypeDesc.int IntKind.i64,size:=1,bytes:=8,zero:=Value.int IntKind.i64 (0) }):=by kernel_rfl
theorem qjq:qba Tryz.prog 107 2=some (2,{ desc:=TypeDesc.string,size:=1,bytes:=16,zero:=Value.string { data:=#[] } }):=by kernel_rfl
theorem qeM:qba Tryz.prog 111 0=some (0,{ desc:=TypeDesc.struct { toList:=[{ name := "Letters", type:=3,offset:=0,embedded:=false,tag := "", pkgPath := "", byteOffset:=0 },{ name := "Words", type:=22,offset:=1,embedded:=false,tag := "", pkgPath := "", byteOffset:=8 }] },size:=2,bytes:=32,zero:=Value.agg #[Value.int IntKind.i64 (0),Value.slice none 0 0] }):=by kernel_rfl
theorem qem:qba Tryz.prog 111 1=some (2,{ desc:=TypeDesc.map 116 3,size:=1,bytes:=8,zero:=Value.map none }):=by kernel_rfl
theorem qrI:qba Tryz.prog 116 0=some (0,{ desc:=TypeDesc.string,size:=1,bytes:=16,zero:=Value.string { data:=#[] } }):=by kernel_rfl
theorem qrH:qba Tryz.prog 116 1=some (1,{ desc:=TypeDesc.string,size:=1,bytes:=16,zero:=Value.string { data:=#[] } }):=by kernel_rfl
theorem es22:qbn Tryz.prog 22=some 1:=by kernel_rfl
theorem es25:qbn Tryz.prog 25=some 3:=by kernel_rfl
theorem es28:qbn Tryz.prog 28=some 1:=by kernel_rfl
theorem es36:qbn Tryz.prog 36=some 1:=by kernel_rfl
theorem es58:qbn Tryz.prog 58=some 3:=by kernel_rfl
theorem qfW:qbn Tryz.prog 113=some 2:=by kernel_rfl
theorem qrJ:qbn Tryz.prog 121=some 1:=by kernel_rfl
theorem qsz:qbn Tryz.prog 185=some 1:=by kernel_rfl
theorem qqp:qbn Tryz.prog 186=some 1:=by kernel_rfl
def ints (l:List Int):HV:=.sl 1 l.length (l.map (.int .i64))
def num (n:Int):HV:=.int .i64 n
theorem qhx {i n:Nat} (h:n≤9223372036854775807) (hi:i<n):IntKind.wrap .i64 ((i:Int)+1)=((i+1:Nat):Int):=by
 rw [w64 (by omega) (by omega)]; omega
theorem qq3 {i n:Nat} (h:decide ((i:Int)<(n:Int))=false) (hi:i≤n):i=n:=by
 have:¬ i<n:=by simpa using h
 omega
theorem Pure.use {P:Program} {f:FuncId} {args:List HV} {H:Heap} {K:HV→Heap→Prop} {R:HV→Prop} (hp:Pure P f args R) (hK:∀ r,R r→K r H):ACall P f args H K:=ACall.pure0 hp hK
end Go.AW

namespace Go.Proofs
open Go
def zaI:Go.Shelf.Ren:=⟨fun | 6=>101 | 8=>112 | 9=>116 | 19=>133 | 20=>134 | 21=>137 | 22=>138 | 23=>139 | 24=>140 | 25=>141 | 26=>142 | 27=>143 | 28=>144 | 29=>145 | 36=>154 | 31=>149 | 32=>150 | 37=>155 | 38=>156 | 39=>157 | 41=>159 | n=>n,fun | 27=>22 | 29=>9 | 3=>3 | 32=>154 | 26=>22 | 0=>0 | 44=>168 | 46=>171 | 4=>4 | 36=>177 | 35=>176 | 41=>119 | 5=>5 | 9=>9 | 53=>194 | 57=>198 | 63=>202 | 64=>203 | n=>n,fun | n=>n⟩
theorem Tryz.sortS:Go.Proofs.SlLaysM.n6 Tryz.prog zaI where
 mixed:=by kernel_rfl
 f6:=⟨"slices.Sort[[]string,string]", by decide,Tryz.func101.trans (congrArg some (by kernel_rfl))⟩
 f8:=Tryz.func112.trans (congrArg some (by kernel_rfl))
 f9:=⟨"slices.pdqsortOrdered[string]", by decide,Tryz.func116.trans (congrArg some (by kernel_rfl))⟩
 f19:=Tryz.func133.trans (congrArg some (by kernel_rfl))
 f20:=Tryz.func134.trans (congrArg some (by kernel_rfl))
 f21:=⟨"slices.insertionSortOrdered[string]", by decide,Tryz.func137.trans (congrArg some (by kernel_rfl))⟩
 f22:=⟨"slices.heapSortOrdered[string]", by decide,Tryz.func138.trans (congrArg some (by kernel_rfl))⟩
 f23:=⟨"slices.breakPatternsOrdered[string]", by decide,Tryz.func139.trans (congrArg some (by kernel_rfl))⟩
 f24:=⟨"slices.choosePivotOrdered[string]", by decide,Tryz.func140.trans (congrArg some (by kernel_rfl))⟩
 f25:=⟨"slices.reverseRangeOrdered[string]", by decide,Tryz.func141.trans (congrArg some (by kernel_rfl))⟩
 f26:=⟨"slices.partialInsertionSortOrdered[string]", by decide,Tryz.func142.trans (congrArg some (by kernel_rfl))⟩
 f27:=⟨"cmp.Less[string]", by decide,Tryz.func143.trans (congrArg some (by kernel_rfl))⟩
 f28:=⟨"slices.partitionEqualOrdered[string]", by decide,Tryz.func144.trans (congrArg some (by kernel_rfl))⟩
 f29:=⟨"slices.partitionOrdered[string]", by decide,Tryz.func145.trans (congrArg some (by kernel_rfl))⟩
 f31:=Tryz.func149.trans (congrArg some (by kernel_rfl))
 f32:=Tryz.func150.trans (congrArg some (by kernel_rfl))
 f36:=⟨"slices.siftDownOrdered[string]", by decide,Tryz.func154.trans (congrArg some (by kernel_rfl))⟩
 f37:=⟨"slices.medianAdjacentOrdered[string]", by decide,Tryz.func155.trans (congrArg some (by kernel_rfl))⟩
 f38:=⟨"slices.medianOrdered[string]", by decide,Tryz.func156.trans (congrArg some (by kernel_rfl))⟩
 f39:=⟨"cmp.isNaN[string]", by decide,Tryz.func157.trans (congrArg some (by kernel_rfl))⟩
 f41:=⟨"slices.order2Ordered[string]", by decide,Tryz.func159.trans (congrArg some (by kernel_rfl))⟩
 t0:=Tryz.underlying0
 a0:=Tryz.isAgg0
 z0:=Tryz.sizeOf0
 v0:=Tryz.zeroValue0
 t3:=Tryz.underlying3
 a3:=Tryz.isAgg3
 z3:=Tryz.sizeOf3
 v3:=Tryz.zeroValue3
 t4:=Tryz.underlying4
 a4:=Tryz.isAgg4
 z4:=Tryz.sizeOf4
 v4:=Tryz.zeroValue4
 t5:=Tryz.underlying5
 a5:=Tryz.isAgg5
 z5:=Tryz.sizeOf5
 v5:=Tryz.zeroValue5
 t9:=Tryz.underlying9
 a9:=Tryz.isAgg9
 z9:=Tryz.sizeOf9
 v9:=Tryz.zeroValue9
 t26:=Tryz.underlying22
 a26:=Tryz.isAgg22
 z26:=Tryz.sizeOf22
 v26:=Tryz.zeroValue22
 t27:=Tryz.underlying22
 a27:=Tryz.isAgg22
 z27:=Tryz.sizeOf22
 v27:=Tryz.zeroValue22
 t29:=Tryz.underlying9
 a29:=Tryz.isAgg9
 z29:=Tryz.sizeOf9
 v29:=Tryz.zeroValue9
 t32:=Tryz.underlying154
 a32:=Tryz.isAgg154
 z32:=Tryz.sizeOf154
 v32:=Tryz.zeroValue154
 t35:=Tryz.underlying176
 a35:=Tryz.isAgg176
 z35:=Tryz.sizeOf176
 v35:=Tryz.zeroValue176
 t36:=Tryz.underlying177
 a36:=Tryz.isAgg177
 z36:=Tryz.sizeOf177
 v36:=Tryz.zeroValue177
 t41:=Tryz.underlying119
 a41:=Tryz.isAgg119
 z41:=Tryz.sizeOf119
 v41:=Tryz.zeroValue119
 t44:=Tryz.underlying168
 a44:=Tryz.isAgg168
 z44:=Tryz.sizeOf168
 v44:=Tryz.zeroValue168
 t46:=Tryz.underlying171
 a46:=Tryz.isAgg171
 z46:=Tryz.sizeOf171
 v46:=Tryz.zeroValue171
 t53:=Tryz.underlying194
 a53:=Tryz.isAgg194
 z53:=Tryz.sizeOf194
 v53:=Tryz.zeroValue194
 t57:=Tryz.underlying198
 a57:=Tryz.isAgg198
 z57:=Tryz.sizeOf198
 v57:=Tryz.zeroValue198
 t63:=Tryz.underlying202
 a63:=Tryz.isAgg202
 z63:=Tryz.sizeOf202
 v63:=Tryz.zeroValue202
 t64:=Tryz.underlying203
 a64:=Tryz.isAgg203
 z64:=Tryz.sizeOf203
 v64:=Tryz.zeroValue203
def zaJ:Go.Shelf.Ren:=⟨fun | 5=>94 | 8=>112 | 7=>111 | 19=>133 | 20=>134 | 10=>124 | 11=>125 | 12=>126 | 13=>127 | 14=>128 | 15=>129 | 16=>130 | 17=>131 | 18=>132 | 30=>148 | 31=>149 | 32=>150 | 33=>151 | 34=>152 | 35=>122 | 40=>158 | n=>n,fun | 23=>36 | 25=>3 | 3=>3 | 32=>154 | 22=>36 | 0=>0 | 44=>168 | 46=>171 | 4=>4 | 36=>177 | 35=>176 | 41=>119 | 5=>5 | 9=>9 | 53=>194 | 57=>198 | 63=>202 | 64=>203 | n=>n,fun | n=>n⟩
theorem Tryz.sortI:Go.Proofs.SlLaysM.n5 Tryz.prog zaJ where
 mixed:=by kernel_rfl
 f5:=⟨"slices.Sort[[]int,int]", by decide,Tryz.func94.trans (congrArg some (by kernel_rfl))⟩
 f7:=⟨"slices.pdqsortOrdered[int]", by decide,Tryz.func111.trans (congrArg some (by kernel_rfl))⟩
 f8:=Tryz.func112.trans (congrArg some (by kernel_rfl))
 f10:=⟨"slices.insertionSortOrdered[int]", by decide,Tryz.func124.trans (congrArg some (by kernel_rfl))⟩
 f11:=⟨"slices.heapSortOrdered[int]", by decide,Tryz.func125.trans (congrArg some (by kernel_rfl))⟩
 f12:=⟨"slices.breakPatternsOrdered[int]", by decide,Tryz.func126.trans (congrArg some (by kernel_rfl))⟩
 f13:=⟨"slices.choosePivotOrdered[int]", by decide,Tryz.func127.trans (congrArg some (by kernel_rfl))⟩
 f14:=⟨"slices.reverseRangeOrdered[int]", by decide,Tryz.func128.trans (congrArg some (by kernel_rfl))⟩
 f15:=⟨"slices.partialInsertionSortOrdered[int]", by decide,Tryz.func129.trans (congrArg some (by kernel_rfl))⟩
 f16:=⟨"cmp.Less[int]", by decide,Tryz.func130.trans (congrArg some (by kernel_rfl))⟩
 f17:=⟨"slices.partitionEqualOrdered[int]", by decide,Tryz.func131.trans (congrArg some (by kernel_rfl))⟩
 f18:=⟨"slices.partitionOrdered[int]", by decide,Tryz.func132.trans (congrArg some (by kernel_rfl))⟩
 f19:=Tryz.func133.trans (congrArg some (by kernel_rfl))
 f20:=Tryz.func134.trans (congrArg some (by kernel_rfl))
 f30:=⟨"slices.siftDownOrdered[int]", by decide,Tryz.func148.trans (congrArg some (by kernel_rfl))⟩
 f31:=Tryz.func149.trans (congrArg some (by kernel_rfl))
 f32:=Tryz.func150.trans (congrArg some (by kernel_rfl))
 f33:=⟨"slices.medianAdjacentOrdered[int]", by decide,Tryz.func151.trans (congrArg some (by kernel_rfl))⟩
 f34:=⟨"slices.medianOrdered[int]", by decide,Tryz.func152.trans (congrArg some (by kernel_rfl))⟩
 f35:=⟨"cmp.isNaN[int]", by decide,Tryz.func122.trans (congrArg some (by kernel_rfl))⟩
 f40:=⟨"slices.order2Ordered[int]", by decide,Tryz.func158.trans (congrArg some (by kernel_rfl))⟩
 t0:=Tryz.underlying0
 a0:=Tryz.isAgg0
 z0:=Tryz.sizeOf0
 v0:=Tryz.zeroValue0
 t3:=Tryz.underlying3
 a3:=Tryz.isAgg3
 z3:=Tryz.sizeOf3
 v3:=Tryz.zeroValue3
 t4:=Tryz.underlying4
 a4:=Tryz.isAgg4
 z4:=Tryz.sizeOf4
 v4:=Tryz.zeroValue4
 t5:=Tryz.underlying5
 a5:=Tryz.isAgg5
 z5:=Tryz.sizeOf5
 v5:=Tryz.zeroValue5
 t9:=Tryz.underlying9
 a9:=Tryz.isAgg9
 z9:=Tryz.sizeOf9
 v9:=Tryz.zeroValue9
 t22:=Tryz.underlying36
 a22:=Tryz.isAgg36
 z22:=Tryz.sizeOf36
 v22:=Tryz.zeroValue36
 t23:=Tryz.underlying36
 a23:=Tryz.isAgg36
 z23:=Tryz.sizeOf36
 v23:=Tryz.zeroValue36
 t25:=Tryz.underlying3
 a25:=Tryz.isAgg3
 z25:=Tryz.sizeOf3
 v25:=Tryz.zeroValue3
 t32:=Tryz.underlying154
 a32:=Tryz.isAgg154
 z32:=Tryz.sizeOf154
 v32:=Tryz.zeroValue154
 t35:=Tryz.underlying176
 a35:=Tryz.isAgg176
 z35:=Tryz.sizeOf176
 v35:=Tryz.zeroValue176
 t36:=Tryz.underlying177
 a36:=Tryz.isAgg177
 z36:=Tryz.sizeOf177
 v36:=Tryz.zeroValue177
 t41:=Tryz.underlying119
 a41:=Tryz.isAgg119
 z41:=Tryz.sizeOf119
 v41:=Tryz.zeroValue119
 t44:=Tryz.underlying168
 a44:=Tryz.isAgg168
 z44:=Tryz.sizeOf168
 v44:=Tryz.zeroValue168
 t46:=Tryz.underlying171
 a46:=Tryz.isAgg171
 z46:=Tryz.sizeOf171
 v46:=Tryz.zeroValue171
 t53:=Tryz.underlying194
 a53:=Tryz.isAgg194
 z53:=Tryz.sizeOf194
 v53:=Tryz.zeroValue194
 t57:=Tryz.underlying198
 a57:=Tryz.isAgg198
 z57:=Tryz.sizeOf198
 v57:=Tryz.zeroValue198
 t63:=Tryz.underlying202
 a63:=Tryz.isAgg202
 z63:=Tryz.sizeOf202
 v63:=Tryz.zeroValue202
 t64:=Tryz.underlying203
 a64:=Tryz.isAgg203
 z64:=Tryz.sizeOf203
 v64:=Tryz.zeroValue203
end Go.Proofs
namespace Go.AW
open Go
section
open Go Go.Proofs Go.Sort
theorem qiH {α:Type} {w:World} {μ:Mu} {f:α→HV} {g:α→Value}:∀ {l:List α},RepL w μ (l.map f) (l.map g)↔∀ x∈l,Rep w μ (f x) (g x)
 | []=>by simp [RepL]
 | a::l=>by
  simp only [List.map_cons,RepL,List.mem_cons,forall_eq_or_imp];constructor
  ·rintro ⟨x,xs,e,h1,h2⟩
   cases e;exact ⟨h1,qiH.1 h2⟩
  exact fun ⟨h1,h2⟩=>⟨_,_,rfl,h1,qiH.2 h2⟩
theorem qib {α:Type} [Inhabited α] {enc:α→Value} {f:α→HV} (hf1:∀ x,(f x).one=true) {w:World} {μ:Mu} {H:Heap} {id ver b k:Nat} {e:TypeId} {l d:List α} (hs:SR w μ H) (hg:hget H id=some (ver,.arr k e (l.map f)))
  (hl:μ.loc id=some (ver,some b)) (hrep:∀ x∈l,Rep w μ (f x) (enc x)) (hor:OR w μ (.arr k e (l.map f)) (some b)) (hv:∀ vs,RepL w μ (l.map f) vs→vs=l.map enc) (hp:d.Perm l) (n:Nat) (os:Array Obj) :
  SR (grow (putRow enc (Sort.ahead w n) b 0 d.toArray) os) μ (hset H id ver (.arr k e (d.map f)))∧Evo w μ (grow (putRow enc (Sort.ahead w n) b 0 d.toArray) os) μ:=by
 obtain ⟨h0,cur,vs,rest,hrow,hcl,hrl⟩:=hor;have hvs:=hv vs hrl;subst hvs;have hlen:d.length=l.length:=hp.length_eq
 have hcsz:cur.size=l.length+rest.length:=by rw [← Array.length_toList,hcl]; simp
 -- the world with the row put
 have hb:=hrow.lt;obtain ⟨lo,hi,hbk,hfr⟩:=hrow
 have hbk':(putRow enc (Sort.ahead w n) b 0 d.toArray).heap[b]?=some (.cells (putCells enc 0 d.toArray cur) e (lo,hi)):=by
  show (w.heap.modify b _)[b]?=_;rw [Array.getElem?_modify,if_pos rfl,hbk];rfl
 have hcur':(putCells enc 0 d.toArray cur).toList=d.map enc++rest:=by
  apply List.ext_getElem?;intro i;rw [Array.getElem?_toList];simp only [putCells,Array.getElem?_mapIdx]
  have hc:cur[i]?=(l.map enc++rest)[i]?:=by rw [← hcl,Array.getElem?_toList]
  rw [hc]
  rcases Nat.lt_or_ge i d.length with hi | hi
  ·rw [List.getElem?_append_left (by simp; omega),List.getElem?_append_left (by simpa using hi),List.getElem?_map,List.getElem?_map,List.getElem?_eq_getElem (by omega:i<l.length),List.getElem?_eq_getElem hi]
   simp only [Option.map_some];rw [if_pos ⟨Nat.zero_le _,by simpa using hi⟩];simp [hi]
  rw [List.getElem?_append_right (by simp; omega),List.getElem?_append_right (by simpa using hi)];simp only [List.length_map,hlen]
  cases rest[i - l.length]? with
  | none=>rfl
  | some x =>
   simp only [Option.map_some];rw [if_neg (by simp; omega)]
 have hsz1:(putRow enc (Sort.ahead w n) b 0 d.toArray).heap.size=w.heap.size:=by rw [Sort.size_putRow]; rfl
 have hrow1:Row (putRow enc (Sort.ahead w n) b 0 d.toArray) b (putCells enc 0 d.toArray cur) e:=⟨lo,hi,hbk',by simpa [putCells] using hfr⟩
 have hold:∀ b',b'≠b→(putRow enc (Sort.ahead w n) b 0 d.toArray).heap[b']?=w.heap[b']?:=fun b' hne=>by
  show (w.heap.modify b _)[b']?=_;rw [Array.getElem?_modify,if_neg (fun e=>hne e.symm)]
 obtain ⟨h1,h2⟩:=hs.updArr (cs':=d.map f) (w':=putRow enc (Sort.ahead w n) b 0 d.toArray) hg hl ⟨rfl,rfl,rfl⟩ hsz1 hold ⟨lo,hi,hbk,hfr⟩ hrow1 (by simp [putCells]) fun E=>by
  refine ⟨fun c hc=>?_,_,d.map enc,rest,hrow1,hcur',qiH.2 fun x hx=>Rep.evo E hs.ok _ _ (hrep x (hp.mem_iff.1 hx))⟩;obtain ⟨x,_,rfl⟩:=List.mem_map.1 hc;exact hf1 x
 have g:Grow (putRow enc (Sort.ahead w n) b 0 d.toArray) (grow (putRow enc (Sort.ahead w n) b 0 d.toArray) os) :=
  ⟨⟨rfl,rfl,rfl⟩,by rw [size_grow]; omega,fun b' hb'=>by
   show (_++os)[b']?=_
   rw [Array.getElem?_append_left hb']⟩
 exact ⟨h1.grow g,h2.trans (Evo.grow h1 g)⟩
theorem qjo {α:Type} [Inhabited α] {enc:α→Value} {w:World} {b:Nat} {cur:Array Value} {e:TypeId} {l:List α} {rest:List Value} (hrow:Row w b cur e) (hcl:cur.toList=l.map enc++rest):Holds enc w b 0 l.toArray:=by
 intro j hj
 have hj':j<l.length:=by simpa using hj
 have hc:cur[j]?=some (enc l[j]):=by
  rw [← Array.getElem?_toList,hcl,List.getElem?_append_left (by simpa using hj'),List.getElem?_map,List.getElem?_eq_getElem hj'];rfl
 refine ⟨?_,?_⟩
 ·rw [Nat.zero_add,hrow.cell,hc]
  simp [hj']
 rw [Nat.zero_add];exact hrow.free (Array.getElem?_eq_some_iff.1 hc).1
theorem qjb {w:World} {μ:Mu}:∀ {l:List (List UInt8)} {vs:List Value},RepL w μ (l.map .str) vs→vs=l.map encStr∧∀ x∈l,Rep w μ (.str x) (encStr x)
 | [],vs,h=>by simp only [List.map_nil,RepL] at h; subst h; exact ⟨rfl,by simp⟩
 | a::l,vs,⟨x,xs,e,h1,h2⟩=>by
  obtain ⟨h3,h4⟩:=qjb h2;obtain ⟨rfl,hl⟩:=h1;subst e;rw [h3];exact ⟨rfl,by simpa using ⟨⟨rfl,hl⟩,h4⟩⟩
theorem qf8 {w:World} {μ:Mu}:∀ {l:List Int} {vs:List Value},RepL w μ (l.map (.int .i64)) vs→vs=l.map (Value.int .i64)∧∀ x∈l,Rep w μ (.int .i64 x) (Value.int .i64 x)
 | [],vs,h=>by simp only [List.map_nil,RepL] at h; subst h; exact ⟨rfl,by simp⟩
 | a::l,vs,⟨x,xs,e,h1,h2⟩=>by
  obtain ⟨h3,h4⟩:=qf8 h2;obtain ⟨rfl,hl⟩:=h1;subst e;rw [h3];exact ⟨rfl,by simpa using ⟨⟨rfl,hl⟩,h4⟩⟩
theorem w45 {H:Heap} {id ver:Nat} {e:TypeId} {l:List (List UInt8)} {K:HV→Heap→Prop} (hg:hget H id=some (ver,.arr 1 e (l.map .str))) (hlen:l.length<4611686018427387904)
  (hK:K (.tup []) (hset H id ver (.arr 1 e ((sortS l).map .str)))):ACall Tryz.prog 101 [.ar id ver 1 0 l.length] H K:=by
 refine ⟨qde Tryz.func101 rfl rfl,fun μ w vs hs hr _=>?_⟩;obtain ⟨x,xs,rfl,hr,hn⟩:=hr;cases hn;obtain ⟨lo,hl,hor⟩:=hs.has _ _ _ hg
 rcases hr with ⟨lo',hl',h⟩ | ⟨hd,_⟩
 ·rw [hl] at hl'
  cases hl'
  rcases h with ⟨rfl,rfl,h0,_⟩ | ⟨b,cap,cur,e',rfl,rfl,hcap,_,hrow,hsz⟩
  ·have h0':l=[]:=List.eq_nil_of_length_eq_zero h0
   subst h0';refine (AnyM.slices_Sort_string_none Tryz.sortS none 0 w).mono ?_
   rintro e' w' ⟨rfl,rfl⟩
   have hset_same:SR w' μ (hset H id ver (.arr 1 e ((sortS []).map .str))):=by
    refine ⟨hs.ok,fun j v o ho=>?_,fun j x hx=>?_,hs.inj,hs.held⟩
    ·rw [qap] at ho
     split at ho
     ·rename_i ej; subst ej; cases ho; exact ⟨none,hl,by show (sortS []).map HV.str=[]; simp [sortS]⟩
     exact hs.has _ _ _ ho
    rw [qap];split
    ·exact ⟨_,rfl⟩
    exact hs.only _ _ hx
   exact ⟨_,.tup [],_,μ,rfl,hK,hset_same,⟨[],rfl,rfl⟩,Evo.refl _ _⟩
  have hor':=hor;obtain ⟨h0,cur',vs',rest,hrow',hcl,hrl⟩:=hor;obtain ⟨hvs,hreps⟩:=qjb hrl;subst hvs;refine (AnyM.slices_Sort_string Tryz.sortS b 0 cap l w (qjo hrow' hcl) hrow'.lt hlen).mono ?_
  rintro e2 w' ⟨rfl,n,os,rfl⟩
  obtain ⟨h1,h2⟩:=qib (f:=HV.str) (fun _=>rfl) hs hg hl hreps hor' (fun vs hv=>(qjb hv).1) (List.mergeSort_perm l _) n os;exact ⟨_,.tup [],_,μ,rfl,hK,h1,⟨[],rfl,rfl⟩,h2⟩
 exact absurd hl (hd.2 lo)
theorem w45n {H:Heap} {K:HV→Heap→Prop} (hK:K (.tup []) H):ACall Tryz.prog 101 [.v (.slice none 0 0)] H K:=by
 refine ⟨qde Tryz.func101 rfl rfl,fun μ w vs hs hr _=>?_⟩;obtain ⟨x,xs,rfl,hr,hn⟩:=hr;cases hn;cases hr;refine (AnyM.slices_Sort_string_none Tryz.sortS none 0 w).mono ?_
 rintro e' w' ⟨rfl,rfl⟩
 exact ⟨_,.tup [],_,μ,rfl,hK,hs,⟨[],rfl,rfl⟩,Evo.refl _ _⟩
theorem w179 {H:Heap} {id ver:Nat} {e:TypeId} {l:List Int} {K:HV→Heap→Prop} (hg:hget H id=some (ver,.arr 1 e (l.map (.int .i64)))) (hlen:l.length<4611686018427387904)
  (hK:K (.tup []) (hset H id ver (.arr 1 e ((sortI l).map (.int .i64))))):ACall Tryz.prog 94 [.ar id ver 1 0 l.length] H K:=by
 refine ⟨qde Tryz.func94 rfl rfl,fun μ w vs hs hr _=>?_⟩;obtain ⟨x,xs,rfl,hr,hn⟩:=hr;cases hn;obtain ⟨lo,hl,hor⟩:=hs.has _ _ _ hg
 rcases hr with ⟨lo',hl',h⟩ | ⟨hd,_⟩
 ·rw [hl] at hl'
  cases hl'
  rcases h with ⟨rfl,rfl,h0,_⟩ | ⟨b,cap,cur,e',rfl,rfl,hcap,_,hrow,hsz⟩
  ·have h0':l=[]:=List.eq_nil_of_length_eq_zero h0
   subst h0';refine (AnyM.slices_Sort_int_none Tryz.sortI none 0 w).mono ?_
   rintro e' w' ⟨rfl,rfl⟩
   refine ⟨_,.tup [],_,μ,rfl,hK,?_,⟨[],rfl,rfl⟩,Evo.refl _ _⟩
   have:(sortI []).map (HV.int .i64)=[]:=by simp [sortI]
   rw [this];exact hs.same hg
  have hor':=hor;obtain ⟨h0,cur',vs',rest,hrow',hcl,hrl⟩:=hor;obtain ⟨hvs,hreps⟩:=qf8 hrl;subst hvs;refine (AnyM.slices_Sort_int Tryz.sortI b 0 cap l w (qjo hrow' hcl) hrow'.lt hlen).mono ?_
  rintro e2 w' ⟨rfl,n,os,rfl⟩
  obtain ⟨h1,h2⟩:=qib (f:=HV.int .i64) (fun _=>rfl) hs hg hl hreps hor' (fun vs hv=>(qf8 hv).1) (List.mergeSort_perm l _) n os;exact ⟨_,.tup [],_,μ,rfl,hK,h1,⟨[],rfl,rfl⟩,h2⟩
 exact absurd hl (hd.2 lo)
theorem qpK:qpA Tryz.prog 94:=by
 refine ⟨fun _ _ _ _ _ _ hg hl hK=>w179 hg hl hK,fun H K hK=>⟨qde Tryz.func94 rfl rfl,fun μ w vs hs hr _=>?_⟩⟩;obtain ⟨x,xs,rfl,hr,hn⟩:=hr;cases hn;cases hr;refine (AnyM.slices_Sort_int_none Tryz.sortI none 0 w).mono ?_
 rintro e' w' ⟨rfl,rfl⟩
 exact ⟨_,.tup [],_,μ,rfl,hK,hs,⟨[],rfl,rfl⟩,Evo.refl _ _⟩
end
section
open Go Go.Proofs Go.Sort Go.Lib
theorem qoy {α:Type} [Inhabited α] {enc:α→Value} {f:α→HV} (hf1:∀ x,(f x).one=true) {w:World} {μ:Mu} {H:Heap} {id ver b k:Nat} {e:TypeId} {l d:List α} (hs:SR w μ H) (hg:hget H id=some (ver,.arr k e (l.map f)))
  (hl:μ.loc id=some (ver,some b)) (hrep:∀ x∈d,Rep w μ (f x) (enc x)) (hor:OR w μ (.arr k e (l.map f)) (some b)) (hv:∀ vs,RepL w μ (l.map f) vs→vs=l.map enc) (hlen:d.length=l.length) (n:Nat) :
  SR (putRow enc (Sort.ahead w n) b 0 d.toArray) μ (hset H id ver (.arr k e (d.map f)))∧Evo w μ (putRow enc (Sort.ahead w n) b 0 d.toArray) μ:=by
 obtain ⟨h0,cur,vs,rest,hrow,hcl,hrl⟩:=hor;have hvs:=hv vs hrl;subst hvs
 have hcsz:cur.size=l.length+rest.length:=by rw [← Array.length_toList,hcl]; simp
 obtain ⟨lo,hi,hbk,hfr⟩:=hrow
 have hbk':(putRow enc (Sort.ahead w n) b 0 d.toArray).heap[b]?=some (.cells (putCells enc 0 d.toArray cur) e (lo,hi)):=by
  show (w.heap.modify b _)[b]?=_;rw [Array.getElem?_modify,if_pos rfl,hbk];rfl
 have hcur':(putCells enc 0 d.toArray cur).toList=d.map enc++rest:=by
  apply List.ext_getElem?;intro i;rw [Array.getElem?_toList];simp only [putCells,Array.getElem?_mapIdx]
  have hc:cur[i]?=(l.map enc++rest)[i]?:=by rw [← hcl,Array.getElem?_toList]
  rw [hc]
  rcases Nat.lt_or_ge i d.length with hi | hi
  ·rw [List.getElem?_append_left (by simp; omega),List.getElem?_append_left (by simpa using hi),List.getElem?_map,List.getElem?_map,List.getElem?_eq_getElem (by omega:i<l.length),List.getElem?_eq_getElem hi]
   simp only [Option.map_some];rw [if_pos ⟨Nat.zero_le _,by simpa using hi⟩];simp [hi]
  rw [List.getElem?_append_right (by simp; omega),List.getElem?_append_right (by simpa using hi)];simp only [List.length_map,hlen]
  cases rest[i - l.length]? with
  | none=>rfl
  | some x =>
   simp only [Option.map_some];rw [if_neg (by simp; omega)]
 have hsz1:(putRow enc (Sort.ahead w n) b 0 d.toArray).heap.size=w.heap.size:=by rw [Sort.size_putRow]; rfl
 have hrow1:Row (putRow enc (Sort.ahead w n) b 0 d.toArray) b (putCells enc 0 d.toArray cur) e:=⟨lo,hi,hbk',by simpa [putCells] using hfr⟩
 have hold:∀ b',b'≠b→(putRow enc (Sort.ahead w n) b 0 d.toArray).heap[b']?=w.heap[b']?:=fun b' hne=>by
  show (w.heap.modify b _)[b']?=_;rw [Array.getElem?_modify,if_neg (fun e=>hne e.symm)]
 exact hs.updArr (cs':=d.map f) (w':=putRow enc (Sort.ahead w n) b 0 d.toArray) hg hl ⟨rfl,rfl,rfl⟩ hsz1 hold ⟨lo,hi,hbk,hfr⟩ hrow1 (by simp [putCells]) fun E=>by
  refine ⟨fun c hc=>?_,_,d.map enc,rest,hrow1,hcur',qiH.2 fun x hx=>Rep.evo E hs.ok _ _ (hrep x hx)⟩;obtain ⟨x,_,rfl⟩:=List.mem_map.1 hc;exact hf1 x
end
end Go.AW
namespace Go.Proofs
open Go
set_option maxHeartbeats 1000000 in
set_option maxRecDepth 100000 in
theorem zar (s:ByteArray) (c:Int) (w:World) :
  Calls Tryz.prog 96 #[.string s,.int .u8 c] w fun e w'=>e=.returned (.int .i64 (Lib.indexByte s.data.toList c.toNat.toUInt8))∧w'=w:=by
 go_enter Tryz.func96,Tryz.ntmps96
 go_wp2
 rw [run_callFunc_extern Tryz.func113 (by kernel_rfl) (by kernel_rfl) (by kernel_rfl) (e:=Extern.BytealgIndexByte.indexByte) (by kernel_rfl),Lib.run_indexByteString];simp only [Result.andThen];rw [Oper.upon_value]
 go_wp2
 go_ret
 exact ⟨rfl,rfl⟩
set_option maxHeartbeats 1000000 in
theorem zau (s:ByteArray) (c:Int) (w:World) :
  Calls Tryz.prog 63 #[.string s,.int .u8 c] w fun e w'=>e=.returned (.int .i64 (Lib.indexByte s.data.toList c.toNat.toUInt8))∧w'=w:=by
 go_enter Tryz.func63,Tryz.ntmps63
 go_wp2_with (go_at_call 96; refine (zar _ _ _).mono ?_; rintro e w' ⟨rfl,rfl⟩)
 go_ret
 exact ⟨rfl,rfl⟩
end Go.Proofs
namespace Go.AW
open Go Go.Proofs
theorem qsn (l:List UInt8) (c:UInt8) (hl:l.length≤maxLen):(Lit.int .i64 (Lib.indexByte l c)).wf=true:=by
 have h:∀ l:List UInt8, -1≤Lib.indexByte l c∧Lib.indexByte l c≤l.length:=by
  intro l
  induction l with
  | nil=>simp [Lib.indexByte]
  | cons a l ih =>
   simp only [Lib.indexByte,List.length_cons];split
   ·omega
   split
   ·omega
   omega
 have:=h l;simp only [maxLen] at hl;simp only [Lit.wf,IntKind.min,IntKind.max,IntKind.signed,IntKind.bits,Bool.and_eq_true,decide_eq_true_eq];simp;omega
theorem w51 (l:List UInt8) (c:Int):Pure Tryz.prog 63 [.str l,.int .u8 c] (· = .int .i64 (Lib.indexByte l c.toNat.toUInt8)):=by
 refine ⟨qde Tryz.func63 rfl rfl,fun μ w vs hs hr _=>?_⟩;obtain ⟨x,xs,rfl,⟨rfl,hl⟩,y,ys,rfl,⟨rfl,_⟩,hn⟩:=hr;cases hn;refine (zau ⟨l.toArray⟩ c w).mono ?_
 rintro e w' ⟨rfl,rfl⟩
 exact ⟨_,_,[],μ,rfl,⟨rfl,trivial,rfl⟩,hs,⟨by simp,qsn l _ hl⟩,Evo.refl _ _⟩
end Go.AW
namespace Go.Proofs
open Go
def zaL:Go.Shelf.Ren:=⟨fun | 20=>95 | n=>n,fun | 22=>36 | 3=>3 | 4=>4 | 0=>0 | n=>n,fun | n=>n⟩
theorem zaP:Go.Proofs.Lays2.n20 Tryz.prog zaL where
 mixed:=by kernel_rfl
 f20:=Tryz.func95.trans (congrArg some (by kernel_rfl))
 t0:=Tryz.underlying0
 a0:=Tryz.isAgg0
 z0:=Tryz.sizeOf0
 v0:=Tryz.zeroValue0
 t3:=Tryz.underlying3
 a3:=Tryz.isAgg3
 z3:=Tryz.sizeOf3
 v3:=Tryz.zeroValue3
 t4:=Tryz.underlying4
 a4:=Tryz.isAgg4
 z4:=Tryz.sizeOf4
 v4:=Tryz.zeroValue4
 t22:=Tryz.underlying36
 a22:=Tryz.isAgg36
 z22:=Tryz.sizeOf36
 v22:=Tryz.zeroValue36
 i3:=by kernel_rfl
end Go.Proofs
namespace Go.AW
open Go Go.Proofs Go.Sort Go.Lib
theorem qrQ:qpA Tryz.prog 94:=qpK
theorem w180 {H:Heap} {id ver:Nat} {e:TypeId} {l:List Int} {K:HV→Heap→Prop} (hg:hget H id=some (ver,.arr 1 e (l.map (.int .i64))))
  (hK:K (.ar id ver 1 0 (qaY l).length) (hset H id ver (.arr 1 e ((qaY l++List.replicate (l.length - (qaY l).length) 0).map (.int .i64))))):ACall Tryz.prog 95 [.ar id ver 1 0 l.length] H K:=by
 refine ⟨qde Tryz.func95 rfl rfl,fun μ w vs hs hr _=>?_⟩;obtain ⟨x,xs,rfl,hr,hn⟩:=hr;cases hn;obtain ⟨lo,hl,hor⟩:=hs.has _ _ _ hg
 rcases hr with ⟨lo',hl',h⟩ | ⟨hd,_⟩
 ·rw [hl] at hl'
  cases hl'
  rcases h with ⟨rfl,rfl,h0,_⟩ | ⟨b,cap,cur,e',rfl,rfl,hcap,hcm,hrow,hsz⟩
  ·have hl0:=List.eq_nil_of_length_eq_zero h0
   subst hl0;refine (Any.slices_Compact_int_empty zaP none 0 w).mono ?_
   rintro e2 w' ⟨rfl,rfl⟩
   refine ⟨_,.ar id ver 1 0 0,_,μ,rfl,hK,hs.reobj hg fun l hl hor=>hor,.inl ⟨none,hl,.inl ⟨rfl,rfl,rfl,rfl⟩⟩,Evo.refl _ _⟩
  have hor':=hor;obtain ⟨h0,cur',vs',rest,hrow',hcl,hrl⟩:=hor;obtain ⟨hvs,hreps⟩:=qf8 hrl;subst hvs;refine (Any.slices_Compact_int zaP b 0 cap l w (qjo hrow' hcl) (by have:=hcm; simp only [maxLen] at this; omega) hcap).mono ?_
  rintro e2 w' ⟨rfl,n,rfl⟩
  have hle:=qkb l
  have hlen:(qaY l++List.replicate (l.length - (qaY l).length) (0:Int)).length=l.length:=by simp; omega
  obtain ⟨h1,h2⟩:=qoy (f:=HV.int .i64) (fun _=>rfl) hs hg hl (d:=qaY l++List.replicate (l.length - (qaY l).length) 0) (fun x hx=>by
   rcases List.mem_append.1 hx with hx | hx
   ·exact hreps x (qju hx)
   rw [List.eq_of_mem_replicate hx]; exact ⟨rfl,rfl⟩) hor' (fun vs hv=>(qf8 hv).1) hlen n
  refine ⟨_,.ar id ver 1 0 (qaY l).length,_,μ,rfl,hK,h1,.inl ⟨some b,hl,.inr ⟨b,cap,putCells (Value.int .i64) 0 (qaY l++List.replicate (l.length - (qaY l).length) 0).toArray cur,e',rfl,by simp,by omega,hcm,?_,?_⟩⟩,h2⟩
  ·obtain ⟨lo,hi,hbk,hfr⟩:=hrow
   refine ⟨lo,hi,?_,by simpa [putCells] using hfr⟩;show (w.heap.modify b _)[b]?=_;rw [Array.getElem?_modify,if_pos rfl,hbk];rfl
  simp only [putCells,Array.size_mapIdx]; exact hsz
 exact absurd hl (hd.2 lo)
theorem qnY {H H':Heap} {id ver n:Nat} {e:TypeId} {l:List Int} {K:HV→Heap→Prop} (hn:n=l.length) (hg:hget H id=some (ver,.arr 1 e (l.map (.int .i64)))) (hle:∀ j x,hget H' j=some x→hget H j=some x) (hno:hget H' id=none)
  (hK:K (slE eInt (qaY l)) H'):ACall Tryz.prog 95 [.ar id ver 1 0 n] H K:=by
 subst hn;have hlen:=qkb l;refine ACall.freeze 2 [(id,ver,.arr 1 e ((qaY l++List.replicate (l.length - (qaY l).length) 0).map (.int .i64)))] H' (w180 hg ⟨fun j x hx=>?_,fun j x hx=>?_,?_⟩)
 ·rw [qap,if_neg (fun e=>by rw [e,hno] at hx; cases hx)]
  exact hle j x hx
 ·simp only [hget] at hx
  split at hx
  ·rename_i e
   subst e;cases hx;exact ⟨by rw [qap,if_pos rfl],hno⟩
  cases hx
 have:frz 2 [(id,ver,.arr 1 e ((qaY l++List.replicate (l.length - (qaY l).length) 0).map (.int .i64)))] (.ar id ver 1 0 (qaY l).length)=slE eInt (qaY l):=by
  have h0:hget [(id,ver,AObj.arr 1 e ((qaY l++List.replicate (l.length - (qaY l).length) 0).map (.int .i64)))] id=some (ver,.arr 1 e ((qaY l++List.replicate (l.length - (qaY l).length) 0).map (.int .i64))):=by simp only [hget,if_true]
  rw [frz,h0];have h1:ver=ver∧0+(qaY l).length*1≤((qaY l++List.replicate (l.length - (qaY l).length) (0:Int)).map (HV.int .i64)).length:=⟨rfl,by simp⟩;refine (if_pos h1).trans ?_;rw [List.drop_zero,Nat.mul_one,List.map_append,List.take_left' (List.length_map _),List.map_map];rfl
 rw [this];exact hK
theorem qdw {l:List UInt8} {c r:Int} (h:qaH l c=some r):Pure Tryz.prog 63 [HV.str l,HV.int .u8 c] (· = HV.int .i64 r):=by
 cases h;exact w51 l c
end Go.AW
namespace Go.AW
open Go
def letters:List UInt8:=[48,49,50,51,52,53,54,55,56,57,97,98,99,100,101,102]
abbrev WS:=List UInt8 × List Int
def ext1 (stp:List Int→UInt8→List Int) (cs:List UInt8) (x:WS):List WS:=cs.filterMap fun c=>if stp x.2 c=[] then none else some (x.1++[c],stp x.2 c)
def lvl (stp:List Int→UInt8→List Int) (cs:List UInt8) (set:List Int):Nat→List WS
 | 0=>if set=[] then [] else [([],set)]
 | i+1=>(lvl stp cs set i).flatMap (ext1 stp cs)
def ent (x:WS):List UInt8 × HV:=(x.1,ints x.2)
section
variable {stp:List Int→UInt8→List Int} {cs:List UInt8} {set:List Int}
theorem qd3 {x y:WS}:y∈ext1 stp cs x↔∃ c∈cs,stp x.2 c≠[]∧y=(x.1++[c],stp x.2 c):=by
 simp only [ext1,List.mem_filterMap];constructor
 ·rintro ⟨c,hc,h⟩
  split at h
  ·cases h
  rename_i hn; cases h; exact ⟨c,hc,hn,rfl⟩
 rintro ⟨c,hc,hn,rfl⟩
 exact ⟨c,hc,by rw [if_neg hn]⟩
theorem qo6 (x:WS) (h:cs.Nodup):((ext1 stp cs x).map (·.1)).Nodup:=by
 induction cs with
 | nil=>simp [ext1]
 | cons c cs ih =>
  have hc:=List.nodup_cons.1 h;have ih':=ih hc.2;simp only [ext1,List.filterMap_cons] at ih' ⊢;split
  ·exact ih'
  rename_i y hy
  split at hy
  ·cases hy
  cases hy;simp only [List.map_cons,List.nodup_cons];refine ⟨fun hm=>?_,ih'⟩;obtain ⟨z,hz,he⟩:=List.mem_map.1 hm;obtain ⟨d,hd,_,rfl⟩:=qd3.1 hz;have:=List.append_cancel_left he;cases this;exact hc.1 hd
theorem qlz (h:cs.Nodup):∀ {l:List WS},(l.map (·.1)).Nodup→((l.flatMap (ext1 stp cs)).map (·.1)).Nodup
 | [],_=>by simp
 | x::l,hl=>by
  simp only [List.map_cons,List.nodup_cons] at hl;simp only [List.flatMap_cons,List.map_append];refine List.nodup_append.2 ⟨qo6 x h,qlz h hl.2,?_⟩;intro a ha b hb e;subst e;obtain ⟨y,hy,rfl⟩:=List.mem_map.1 ha;obtain ⟨c,_,_,rfl⟩:=qd3.1 hy;obtain ⟨z,hz,he⟩:=List.mem_map.1 hb;obtain ⟨x',hx',hz'⟩:=List.mem_flatMap.1 hz;obtain ⟨d,_,_,rfl⟩:=qd3.1 hz'
  have h1:x'.1=x.1:=by
   have:=congrArg List.dropLast he
   simpa using this
  exact hl.1 (h1 ▸ List.mem_map.2 ⟨x',hx',rfl⟩)
theorem qkF (h:cs.Nodup):∀ i,((lvl stp cs set i).map (·.1)).Nodup
 | 0=>by simp only [lvl]; split <;> simp
 | i+1=>qlz h (qkF h i)
theorem qjk:∀ (i:Nat) (x:WS),x∈lvl stp cs set i→x.1.length=i
 | 0,x,h=>by
  simp only [lvl] at h;split at h
  ·cases h
  simp at h; subst h; rfl
 | i+1,x,h=>by
  obtain ⟨y,hy,hx⟩:=List.mem_flatMap.1 h;obtain ⟨c,_,_,rfl⟩:=qd3.1 hx;have:=qjk i y hy;simp [this]
theorem qkG {A:List Int→Prop} (h0:A set) (hs:∀ a c,A a→c∈cs→A (stp a c)):∀ (i:Nat) (x:WS),x∈lvl stp cs set i→A x.2
 | 0,x,h=>by
  simp only [lvl] at h;split at h
  ·cases h
  simp at h; subst h; exact h0
 | i+1,x,h=>by
  obtain ⟨y,hy,hx⟩:=List.mem_flatMap.1 h;obtain ⟨c,hc,_,rfl⟩:=qd3.1 hx;exact hs _ _ (qkG h0 hs i y hy) hc
theorem qmc {i:Nat} (h:lvl stp cs set i=[]):∀ {j:Nat},i≤j→lvl stp cs set j=[]
 | 0,hj=>by
  have:i=0:=by omega
  subst this; exact h
 | j+1,hj=>by
  rcases Nat.lt_or_ge i (j+1) with h' | h'
  ·simp only [lvl,qmc h (j:=j) (by omega),List.flatMap_nil]
  have:i=j+1:=by omega
  subst this; exact h
theorem qjc {l l':List WS} (h:l.Perm l'):(l.flatMap (ext1 stp cs)).Perm (l'.flatMap (ext1 stp cs)):=h.flatMap_right _
theorem qle {l:List WS} {es:List (List UInt8 × HV)} (h:es.Perm (l.map ent)) (hl:(l.map (·.1)).Nodup):(es.map (·.1)).Nodup:=by
 have h1:=h.map (·.1);rw [List.map_map] at h1;exact h1.nodup_iff.2 (by simpa [Function.comp_def,ent] using hl)
theorem qoJ {vis rest l:List WS} {es:List (List UInt8 × HV)} {k:List UInt8} {v:HV} (hp:(vis++rest).Perm l) (he:es.Perm (l.map ent)) (hm:(k,v)∈es) (hk:k ∉ vis.map (·.1)) :
  ∃ x l1 l2,rest=l1++x::l2∧(k,v)=ent x∧((x::vis)++(l1++l2)).Perm l:=by
 have h1:(k,v)∈(vis++rest).map ent:=((hp.map ent).symm.mem_iff).1 (he.mem_iff.1 hm);obtain ⟨x,hx,hxe⟩:=List.mem_map.1 h1
 have hxr:x∈rest:=by
  rcases List.mem_append.1 hx with h | h
  ·exfalso
   refine hk (List.mem_map.2 ⟨x,h,?_⟩);have:=congrArg Prod.fst hxe;exact this
  exact h
 obtain ⟨l1,l2,rfl⟩:=List.append_of_mem hxr;refine ⟨x,l1,l2,rfl,hxe.symm,List.Perm.trans ?_ hp⟩
 have e1:(x::vis)++(l1++l2)=x::((vis++l1)++l2):=by simp
 have e2:vis++(l1++x::l2)=(vis++l1)++x::l2:=by simp
 rw [e1,e2];exact List.perm_middle.symm
theorem qpP {vis rest l:List WS} {es:List (List UInt8 × HV)} (hl:(l.map (·.1)).Nodup) (hp:(vis++rest).Perm l) (he:es.Perm (l.map ent)) (hall:∀ p∈es,p.1∈vis.map (·.1)):rest=[]:=by
 cases rest with
 | nil=>rfl
 | cons x rest =>
  exfalso;have hx:ent x∈es:=he.mem_iff.2 (List.mem_map.2 ⟨x,hp.mem_iff.1 (by simp),rfl⟩);have hk:=hall _ hx;have hn:((vis++x::rest).map (·.1)).Nodup:=(hp.map (·.1)).nodup_iff.2 hl;simp only [List.map_append,List.map_cons] at hn;exact (List.nodup_append.1 hn).2.2 _ hk _ (List.mem_cons_self ..) rfl
theorem qlE (x:WS) {j:Nat} (hj:j<cs.length):ext1 stp (cs.take (j+1)) x=ext1 stp (cs.take j) x++(if stp x.2 cs[j]=[] then [] else [(x.1++[cs[j]],stp x.2 cs[j])]):=by
 rw [List.take_add_one,List.getElem?_eq_getElem hj];simp only [ext1,Option.toList_some,List.filterMap_append]
 congr 1
 simp only [List.filterMap_cons,List.filterMap_nil]
 split <;> simp_all
theorem qrD {vis:List WS} {x:WS} (hcs:cs.Nodup) (hx:x.1 ∉ vis.map (·.1)) {j:Nat} (hj:j<cs.length) {es:List (List UInt8 × HV)} (he:es.Perm ((vis.flatMap (ext1 stp cs)++ext1 stp (cs.take j) x).map ent)) :
  qef (x.1++[cs[j]]) es=none:=by
 rw [qh3];intro hm;have h1:=(he.map (·.1)).mem_iff.1 hm;rw [List.map_map,List.map_append,List.mem_append] at h1
 rcases h1 with h | h
 ·obtain ⟨y,hy,hye⟩:=List.mem_map.1 h
  obtain ⟨z,hz,hzy⟩:=List.mem_flatMap.1 hy;obtain ⟨d,_,_,rfl⟩:=qd3.1 hzy
  have h2:z.1=x.1:=by
   have:=congrArg List.dropLast hye
   simpa [ent] using this
  exact hx (h2 ▸ List.mem_map.2 ⟨z,hz,rfl⟩)
 obtain ⟨y,hy,hye⟩:=List.mem_map.1 h;obtain ⟨d,hd,_,rfl⟩:=qd3.1 hy
 have h2:d=cs[j]:=by
  have h3:x.1++[d]=x.1++[cs[j]]:=hye;have:=List.append_cancel_left h3
  simpa using this
 rw [h2] at hd;obtain ⟨k,hk,hke⟩:=List.mem_take_iff_getElem.1 hd;have:=(List.getElem_inj (h₀:=by omega) (h₁:=hj) hcs).1 hke;omega
end
def qp2 (stp:List Int→UInt8→List Int) (cs:List UInt8) (set:List Int) (n:Nat):Bool:=(List.range n).all fun j=>decide ((lvl stp cs set (j+1)).length≤4096)
theorem qjf {stp:List Int→UInt8→List Int} {cs:List UInt8} {set:List Int} {n:Nat}:qp2 stp cs set n=true↔∀ j,1≤j→j≤n→(lvl stp cs set j).length≤4096:=by
 simp only [qp2,List.all_eq_true,List.mem_range,decide_eq_true_eq];constructor
 ·intro h j h1 h2
  have:=h (j - 1) (by omega)
  rwa [show j - 1+1=j by omega] at this
 exact fun h j hj=>h (j+1) (by omega) (by omega)
theorem qlZ:∀ c∈letters,(Utf8.encode (c.toNat:Int)).data.toList=[c]:=by decide
theorem letters_nodup:letters.Nodup:=by decide
theorem qqo {n:Int} (h:fact (.int .i64 n)) : -9223372036854775808≤n∧n≤9223372036854775807:=by
 simpa [fact,Lit.wf,IntKind.min,IntKind.max,IntKind.signed,IntKind.bits] using h
theorem qq0 {a b:Nat} (h:decide ((a:Int)<(b:Int))=true):a<b:=by simpa using h
theorem AW.cjoin2 {P:Program} {ro:Option Nat} {N:Nat} {s:AS} {Q:Exit→AS→Prop} {c:Operand} {x y z:Code} {t:Bool} {α:Type} (St:α→AS) (I:α→Prop) (hc:s.ev c=some (.bool t))
  (h1:t=true→AW P ro N x (qd6 (fun s'=>∃ a,I a∧s'.le (St a)) Q) s) (h2:t=false→AW P ro N y (qd6 (fun s'=>∃ a,I a∧s'.le (St a)) Q) s)
  (h3:∀ a,I a→AW P ro N z Q (St a)):AW P ro N (.cond c x y) (qd6 (AW P ro N z Q) Q) s:=by
 refine (zae hc h1 h2).mono ?_
 rintro e s' h
 cases e with
 | normal=>obtain ⟨a,ha,hl⟩:=h; exact AW.weaken (h3 a ha) hl
 | exit id=>exact h
 | goto l=>exact h
 | ret=>exact h
 | panic ch=>exact h
 | outgrown=>exact h
open Go.Proofs
theorem qsv:qba Tryz.prog 27 0=some (0,{ desc:=TypeDesc.int .i64,size:=1,bytes:=8,zero:=Value.int .i64 0 }):=by kernel_rfl
theorem qsu:qba Tryz.prog 27 1=some (1,{ desc:=TypeDesc.int .i64,size:=1,bytes:=8,zero:=Value.int .i64 0 }):=by kernel_rfl
theorem qst:qba Tryz.prog 27 2=some (2,{ desc:=TypeDesc.slice 35,size:=1,bytes:=24,zero:=Value.slice none 0 0 }):=by kernel_rfl
theorem qss:qba Tryz.prog 35 0=some (0,{ desc:=TypeDesc.int .i64,size:=1,bytes:=8,zero:=Value.int .i64 0 }):=by kernel_rfl
theorem qsr:qba Tryz.prog 35 1=some (1,{ desc:=TypeDesc.int .i64,size:=1,bytes:=8,zero:=Value.int .i64 0 }):=by kernel_rfl
theorem qsq:qba Tryz.prog 35 2=some (2,{ desc:=TypeDesc.int .i64,size:=1,bytes:=8,zero:=Value.int .i64 0 }):=by kernel_rfl
attribute [go_sem high] qsv qsu qst qss qsr qsq
theorem qda {id v:Nat} {o:AObj} {H:Heap}:hget ((id,v,o)::H) id=some (v,o):=by simp [hget]
set_option maxHeartbeats 1000000 in
theorem w79 {L n:Nat} {gS gE:HV} {stp:List Int→UInt8→List Int} {set:List Int} {A:List Int→Prop} (hL:L≤16) (h1g:gS.one=true) (h1e:gE.one=true) (hA0:A set) (hA:∀ a c,A a→c∈letters.take L→A (stp a c))
  (hstep:∀ a c,A a→c∈letters.take L→Pure Tryz.prog 75 [.agg [num L,gS,gE],ints a,.int .u8 c.toNat] (· = ints (stp a c))) :
  ACall Tryz.prog 67 [.agg [num L,gS,gE],ints set,num n] [] fun r H' =>
   ((∀ j,1≤j→j≤n→(lvl stp (letters.take L) set j).length≤4096)∧∃ id ver es,r=.tup [.mp id ver,.bool true]∧H'=[(id,ver,.map es)]∧es.Perm ((lvl stp (letters.take L) set n).map ent)) ∨
   (∃ j,1≤j∧j≤n∧4096<(lvl stp (letters.take L) set j).length∧r=.tup [.v (.map none),.bool false]∧H'=[]):=by
 refine zat (qde Tryz.func67 rfl rfl) fun hf=>?_
 have hn:n≤9223372036854775807:=by
  have:=qqo hf.2.2.1;omega
 refine ACall.of_body Tryz.func67 rfl rfl (Nat.le_of_ble_eq_true rfl) ?_;unfold Tryz.f67;dsimp only [qaL,Nat.reduceAdd];simp only [num] at *;refine zah (fid:=79) (mt:=[]) [1,2,3] rfl fun K hK=>?_;simp only [go_sem,reduceIte,Nat.reduceEqDiff,Int.reduceLE];refine hK _ ?_;clear hK K;refine zah (fid:=79) (mt:=[]) [1,2,3,8] rfl fun K hK=>?_;simp only [go_sem,reduceIte,Nat.reduceEqDiff,Int.reduceLE];intro v0;refine hK _ ?_;clear hK K;refine zad ?_;refine zah (fid:=79) (mt:=[]) [1,2,3,8,18] rfl fun K hK=>?_;simp only [go_sem,ints,reduceIte,Nat.reduceEqDiff,Int.reduceLE];refine hK _ ?_;clear hK K;have h00:((0:Nat):Int)=0:=rfl;refine AW.cjoin2 (fun es:List (List UInt8 × HV)=>⟨[(2,.int .i64 n),(3,.fptr [.int .i64 L,gS,gE] 0),(8,.mp (79*1000+15) v0)],[(79*1000+15,v0,.map es)]⟩) (fun es=>es=(lvl stp (letters.take L) set 0).map ent) rfl (fun hc=>?_) (fun hc=>?_) ?_
 ·have hc:0<set.length:=by simpa using hc
  refine AW.region (fid:=79) (mt:=[]) [2,3,8] rfl fun K hK=>?_;simp only [go_sem,reduceIte,Nat.reduceEqDiff,Int.reduceLE,List.length_nil,Nat.zero_le,mput];refine hK _ ?_;clear hK K
  have hne:set≠[]:=by rintro rfl; simp at hc
  refine ⟨[([],ints set)],by simp [lvl,hne,ent],zam ⟨rfl,rfl,rfl,trivial⟩ ⟨qda,trivial⟩⟩
 ·have hc:set=[]:=by
   have:¬ 0<set.length:=by simpa using hc
   exact List.eq_nil_of_length_eq_zero (by omega)
  refine zac ⟨[],by simp [lvl,hc],zam ⟨rfl,rfl,rfl,trivial⟩ ⟨qda,trivial⟩⟩
 rintro es0 rfl
 refine zad ?_;refine zah (fid:=79) (mt:=[]) [3,8,21,22] rfl fun K hK=>?_;simp only [go_sem,reduceIte,Nat.reduceEqDiff,Int.reduceLE];refine hK _ ?_;clear hK K;refine zaf ?_
 refine AW.loopS (fun p:Nat × Nat × Nat × List (List UInt8 × HV)=>⟨[(3,.fptr [.int .i64 L,gS,gE] 0),(8,.mp p.2.1 p.2.2.1),(21,.int .i64 n),(22,.int .i64 p.1)],[(p.2.1,p.2.2.1,.map p.2.2.2)]⟩)
  (fun p=>p.1≤n∧p.2.2.2.Perm ((lvl stp (letters.take L) set p.1).map ent)∧∀ j,1≤j→j≤p.1→(lvl stp (letters.take L) set j).length≤4096) (fun p=>n - p.1) (0,_,_,_)
  (zam ⟨rfl,rfl,rfl,rfl,trivial⟩ ⟨rfl,trivial⟩) ⟨Nat.zero_le _,List.Perm.refl _,fun j h1 h2=>by dsimp only at h2; omega⟩ ?_
 rintro ⟨i,aid,av,es⟩ ⟨hi,hes,hsz⟩
 dsimp only at hi hes hsz ⊢;refine zah (fid:=79) (mt:=[]) [3,8,21,22,23] rfl fun K hK=>?_;simp only [go_sem,reduceIte,Nat.reduceEqDiff,Int.reduceLE];refine hK _ ?_;clear hK K;refine zak rfl (fun hc=>?_) (fun hc=>?_)
 ·have hi':=qq0 hc
  obtain ⟨f,hf1,hf2⟩:∃ f:Nat,f*1000+24≠aid∧f*1000+26≠aid:=⟨aid+1,by omega,by omega⟩;have hf3:=Ne.symm hf1;have hf4:=Ne.symm hf2;refine zac ?_;refine zad (zaf ?_);refine zah (fid:=f) (mt:=[]) [3,8,9,21,22] rfl fun K hK=>?_;simp only [go_sem,reduceIte,Nat.reduceEqDiff,Int.reduceLE,hf1,hf2,hf3,hf4];intro nv;refine hK _ ?_;clear hK K;refine zad ?_;refine zah (fid:=f) (mt:=[]) [3,9,21,22,26] rfl fun K hK=>?_;simp only [go_sem,reduceIte,Nat.reduceEqDiff,Int.reduceLE,hf1,hf2,hf3,hf4,Nat.add_left_cancel_iff];refine ⟨hf2,fun iv=>hK _ ?_⟩;clear hK K;refine zaf ?_;have hlk:=qkF (stp:=stp) (set:=set) (cs:=letters.take L) (letters_nodup.sublist (List.take_sublist _ _)) i
  refine AW.loopS (fun p:List WS × List WS × List (List UInt8 × HV) × Bool=>⟨[(3,.fptr [.int .i64 L,gS,gE] 0),(9,.mp (f*1000+24) nv),(21,.int .i64 n),(22,.int .i64 i),(26,.it (f*1000+26) iv)],
    [(aid,av,.map es),(f*1000+24,nv,.map p.2.2.1),(f*1000+26,iv,.iter aid av (p.1.map (·.1)) p.2.2.2)]⟩)
   (fun p=>(p.1++p.2.1).Perm (lvl stp (letters.take L) set i)∧p.2.2.1.Perm ((p.1.flatMap (ext1 stp (letters.take L))).map ent)∧(p.1.flatMap (ext1 stp (letters.take L))).length≤4096) (fun p=>p.2.1.length) ([],lvl stp (letters.take L) set i,[],false)
   (zam ⟨rfl,rfl,rfl,rfl,rfl,trivial⟩ ⟨qda,by simp [hget,hf1,hf2,hf3,hf4],by simp [hget,hf1,hf2,hf3,hf4],trivial⟩) ⟨List.Perm.refl _,List.Perm.refl _,Nat.zero_le _⟩ ?_
  rintro ⟨vis,rest,es',cur⟩ ⟨hvr,hes',hlen⟩
  dsimp only at hvr hes' hlen ⊢;refine zah (fid:=f) (mt:=[]) [3,9,21,22,26,28] rfl fun K hK=>?_;simp only [go_sem,reduceIte,Nat.reduceEqDiff,Int.reduceLE,hf1,hf2,hf3,hf4,Nat.add_left_cancel_iff];refine ⟨fun hall=>hK _ ?_,fun k v hkv hks=>hK _ ?_⟩
  ·clear hK K
   have hr:=qpP hlk hvr hes hall;subst hr;rw [List.append_nil] at hvr;have hnx:es'.Perm ((lvl stp (letters.take L) set (i+1)).map ent):=hes'.trans ((qjc hvr).map ent)
   have hln:(lvl stp (letters.take L) set (i+1)).length≤4096:=by
    have:=(qjc (stp:=stp) (cs:=letters.take L) hvr).length_eq;show ((lvl stp (letters.take L) set i).flatMap _).length≤4096;omega
   have hsz':∀ j,1≤j→j≤i+1→(lvl stp (letters.take L) set j).length≤4096:=fun j h1 h2=>by
    rcases Nat.lt_or_ge i j with h | h
    ·have:j=i+1:=by omega
     subst this; exact hln
    exact hsz j h1 h
   refine zak rfl (fun hc=>by cases hc) (fun _=>?_);refine AW.exit ?_;refine zah (fid:=f) (mt:=[]) [3,8,21,22] rfl fun K hK=>?_;simp only [go_sem,reduceIte,Nat.reduceEqDiff,Int.reduceLE,hf1,hf2,hf3,hf4,Nat.add_left_cancel_iff];refine hK _ ?_;clear hK K;refine zah (fid:=f) (mt:=[]) [3,8,21,22,59] rfl fun K hK=>?_;simp only [go_sem,reduceIte,Nat.reduceEqDiff,Int.reduceLE,hf1,hf2,hf3,hf4,Nat.add_left_cancel_iff];refine ⟨by rw [hes'.length_eq,List.length_map]; simp only [maxLen]; omega,hK _ ?_⟩;clear hK K;refine zae rfl (fun hc=>?_) (fun hc=>?_)
   ·have h0:es'=[]:=by
     have:(es'.length:Int)=0:=by simpa using hc
     exact List.eq_nil_of_length_eq_zero (by omega)
    subst h0
    have hl0:lvl stp (letters.take L) set (i+1)=[]:=by
     have:=hnx.length_eq;simp only [List.length_nil,List.length_map] at this;exact List.eq_nil_of_length_eq_zero this.symm
    have hlj:=@qmc stp (letters.take L) set (i+1) hl0;refine AW.exit ?_;refine zah (fid:=79) (mt:=[]) [6,7] rfl fun K hK=>?_;simp only [go_sem,reduceIte,Nat.reduceEqDiff,Int.reduceLE,hf1,hf2,hf3,hf4,Nat.add_left_cancel_iff];refine hK _ ?_;clear hK K;refine AW.ret ⟨.inr rfl,?_⟩;simp only [go_sem,reduceIte,Nat.reduceEqDiff];refine ⟨_,[(f*1000+24,nv,.map [])],Conv.drop (qcF ⟨by simp [hget,hf1,hf2,hf3,hf4],trivial⟩),.inl ⟨fun j h1 h2=>?_,_,_,_,rfl,rfl,?_⟩⟩
    ·rcases Nat.lt_or_ge (i+1) j with h | h
     ·rw [hlj (by omega)]; simp
     exact hsz' j h1 h
    rw [hlj (by omega)]; exact List.Perm.refl _
   refine zac ?_;refine AW.region (fid:=79) (mt:=[]) [3,8,21,22] rfl fun K hK=>?_;simp only [go_sem,reduceIte,Nat.reduceEqDiff,Int.reduceLE];refine hK _ ?_;clear hK K;refine ⟨(i+1,f*1000+24,nv,es'),⟨by dsimp only; omega,hnx,hsz'⟩,by dsimp only; omega,?_⟩;dsimp only;rw [qhx hn hi'];exact zam ⟨rfl,rfl,rfl,rfl,trivial⟩ ⟨by simp [hget,hf1,hf2,hf3,hf4],trivial⟩
  clear hK K;obtain ⟨x,l1,l2,rfl,hx,hvr'⟩:=qoJ hvr hes hkv hks;cases hx;have hxl:x∈lvl stp (letters.take L) set i:=hvr'.mem_iff.1 (by simp);have hxA:A x.2:=qkG hA0 hA i x hxl;have hxn:x.1.length=i:=qjk i x hxl;refine zak rfl (fun _=>?_) (fun hc=>by cases hc);refine zac ?_;refine zaf ?_;refine zah (fid:=f) (mt:=[]) [3,9,10,11,21,22,26] rfl fun K hK=>?_;simp only [go_sem,reduceIte,Nat.reduceEqDiff,Int.reduceLE,hf1,hf2,hf3,hf4,Nat.add_left_cancel_iff];refine ⟨_,qhC (qle hes hlk) hkv,hK _ ?_⟩;clear hK K;refine zad ?_;refine zah (fid:=f) (mt:=[]) [3,9,10,11,21,22,26,33,34] rfl fun K hK=>?_;simp only [go_sem,reduceIte,Nat.reduceEqDiff,Int.reduceLE,List.getElem?_cons_zero,Nat.add_zero];refine hK _ ?_;clear hK K;refine zaf ?_
  refine AW.loopS (fun p:Nat × List (List UInt8 × HV)=>⟨[(3,.fptr [.int .i64 L,gS,gE] 0),(9,.mp (f*1000+24) nv),(10,.str x.1),(11,ints x.2),(21,.int .i64 n),(22,.int .i64 i),(26,.it (f*1000+26) iv),(33,.int .i64 L),(34,.int .i64 p.1)],
    [(aid,av,.map es),(f*1000+24,nv,.map p.2),(f*1000+26,iv,.iter aid av (x.1::vis.map (·.1)) true)]⟩)
   (fun p=>p.1≤L∧p.2.Perm ((vis.flatMap (ext1 stp (letters.take L))++ext1 stp ((letters.take L).take p.1) x).map ent)) (fun p=>L - p.1) (0,es')
   (zam ⟨rfl,rfl,rfl,rfl,rfl,rfl,rfl,rfl,rfl,trivial⟩ ⟨qda,by simp [hget,hf1,hf2,hf3,hf4],by simp [hget,hf1,hf2,hf3,hf4],trivial⟩) ⟨Nat.zero_le _,by simpa [ext1] using hes'⟩ ?_
  rintro ⟨j,es3⟩ ⟨hj,hes2⟩
  dsimp only at hj hes2 ⊢;refine zah (fid:=f) (mt:=[]) [3,9,10,11,21,22,26,33,34,35] rfl fun K hK=>?_;simp only [go_sem,reduceIte,Nat.reduceEqDiff,Int.reduceLE];refine hK _ ?_;clear hK K;refine zak rfl (fun hc=>?_) (fun hc=>?_)
  ·have hj':=qq0 hc
   have hjl:j<letters.length:=by show j<16; omega
   have hjt:j<(letters.take L).length:=by rw [List.length_take]; exact Nat.lt_min.2 ⟨hj',hjl⟩
   have hcj:(letters.take L)[j]=letters[j]:=List.getElem_take;have hmem:letters[j]∈letters.take L:=hcj ▸ List.getElem_mem hjt;refine zac ?_;refine zad (zaf ?_);refine zah (fid:=f) (mt:=[]) [3,9,10,11,12,21,22,26,33,34] rfl fun K hK=>?_;simp only [go_sem,reduceIte,Nat.reduceEqDiff,Int.reduceLE];refine hK _ ?_;clear hK K;have hlj:([48,49,50,51,52,53,54,55,56,57,97,98,99,100,101,102]:List UInt8)[j]?=some letters[j]:=List.getElem?_eq_getElem (l:=letters) hjl;refine zah (fid:=f) (mt:=[]) [3,9,10,11,13,21,22,26,33,34] rfl fun K hK=>?_;simp only [go_sem,reduceIte,Nat.reduceEqDiff,Int.reduceLE,List.length_nil,List.length_cons,Nat.reduceAdd,Nat.reduceLeDiff,hlj];refine ⟨by omega,hK _ ?_⟩;clear hK K;refine zah (fid:=f) (mt:=[]) [3,9,10,11,13,14,21,22,26,33,34] rfl fun K hK=>?_;simp only [go_sem,reduceIte,Nat.reduceEqDiff,Int.reduceLE,List.length_nil,List.length_cons,Nat.reduceAdd,Nat.reduceLeDiff,List.drop_zero,List.take_succ_cons,List.take_zero];refine (hstep x.2 letters[j] hxA hmem).use fun r hr=>?_;subst hr;refine hK _ ?_;clear hK K;refine zah (fid:=f) (mt:=[]) [3,9,10,11,13,14,21,22,26,33,34,45] rfl fun K hK=>?_;simp only [go_sem,ints,reduceIte,Nat.reduceEqDiff,Int.reduceLE];refine hK _ ?_;clear hK K;have hxk:x.1 ∉ vis.map (·.1):=hks;have htake:=qlE (stp:=stp) x hjt;rw [hcj] at htake;refine zae rfl (fun hc=>?_) (fun hc=>?_)
   ·have hne:stp x.2 letters[j]≠[]:=by
     intro h0;rw [h0] at hc;simp at hc
    rw [if_neg hne] at htake;have hnew:qef (x.1++[letters[j]]) es3=none:=hcj ▸ qrD (letters_nodup.sublist (List.take_sublist _ _)) hxk hjt hes2;refine AW.region (fid:=f) (mt:=[]) [3,9,10,11,21,22,26,33,34] rfl fun K hK=>?_;simp only [go_sem,reduceIte,Nat.reduceEqDiff,Int.reduceLE,hf1,hf2,hf3,hf4,Nat.add_left_cancel_iff,qlZ _ (List.getElem_mem hjl)];refine ⟨by simp only [List.length_cons,List.length_nil,maxLen,hxn]; omega,hf3,hK _ ?_⟩;clear hK K;refine AW.region (fid:=f) (mt:=[]) [3,9,10,11,21,22,26,33,34] rfl fun K hK=>?_;simp only [go_sem,reduceIte,Nat.reduceEqDiff,Int.reduceLE];refine hK _ ?_;clear hK K;refine ⟨(j+1,mput (x.1++[letters[j]]) (ints (stp x.2 letters[j])) es3),⟨by dsimp only; omega,?_⟩,by dsimp only; omega,?_⟩
    ·dsimp only
     rw [qkC hnew,htake,← List.append_assoc,List.map_append];exact hes2.append (List.Perm.refl _)
    dsimp only;rw [qhx (by omega) hj'];exact zam ⟨rfl,rfl,rfl,rfl,rfl,rfl,rfl,rfl,rfl,trivial⟩ ⟨qda,by simp [hget,hf1,hf2,hf3,hf4,ints],by simp [hget,hf1,hf2,hf3,hf4],trivial⟩
   have he:stp x.2 letters[j]=[]:=by
    have:¬ 0<(stp x.2 letters[j]).length:=by simpa using hc
    exact List.eq_nil_of_length_eq_zero (by omega)
   rw [if_pos he,List.append_nil] at htake;refine zac ?_;refine AW.region (fid:=f) (mt:=[]) [3,9,10,11,21,22,26,33,34] rfl fun K hK=>?_;simp only [go_sem,reduceIte,Nat.reduceEqDiff,Int.reduceLE];refine hK _ ?_;clear hK K;refine ⟨(j+1,es3),⟨by dsimp only; omega,?_⟩,by dsimp only; omega,?_⟩
   ·dsimp only
    rw [htake];exact hes2
   dsimp only;rw [qhx (by omega) hj'];exact zam ⟨rfl,rfl,rfl,rfl,rfl,rfl,rfl,rfl,rfl,trivial⟩ ⟨qda,by simp [hget,hf1,hf2,hf3,hf4],by simp [hget,hf1,hf2,hf3,hf4],trivial⟩
  have hj2:=qq3 hc hj;subst hj2
  have htk:(letters.take j).take j=letters.take j:=by rw [List.take_take,Nat.min_self]
  rw [htk] at hes2
  have hes3:es3.Perm (((x::vis).flatMap (ext1 stp (letters.take j))).map ent):=by
   refine hes2.trans (List.Perm.map _ ?_);rw [List.flatMap_cons];exact List.perm_append_comm
  refine AW.exit ?_;refine zah (fid:=f) (mt:=[]) [3,9,21,22,26,55] rfl fun K hK=>?_;simp only [go_sem,reduceIte,Nat.reduceEqDiff,Int.reduceLE,hf1,hf2,hf3,hf4,Nat.add_left_cancel_iff]
  have hle2:es3.length=((x::vis).flatMap (ext1 stp (letters.take j))).length:=by rw [hes3.length_eq,List.length_map]
  have htot:((x::vis).flatMap (ext1 stp (letters.take j))).length≤(lvl stp (letters.take j) set (i+1)).length:=by
   have:=(qjc (stp:=stp) (cs:=letters.take j) hvr').length_eq;rw [List.flatMap_append,List.length_append] at this;show _≤((lvl stp (letters.take j) set i).flatMap _).length;omega
  have hsmall:es3.length≤maxLen:=by
   have hb:∀ (y:WS),(ext1 stp (letters.take j) y).length≤16:=fun y=>by
    refine Nat.le_trans (List.length_filterMap_le _ _) ?_;rw [List.length_take];exact Nat.le_trans (Nat.min_le_left _ _) hL
   rw [hle2,List.flatMap_cons,List.length_append];have:=hb x;simp only [maxLen];omega
  refine ⟨hsmall,hK _ ?_⟩;clear hK K;refine zae rfl (fun hc=>?_) (fun hc=>?_)
  ·have hbig:4096<es3.length:=by
    have:(4096:Int)<es3.length:=by simpa using hc
    omega
   refine zah (fid:=79) (mt:=[]) [6,7] rfl fun K hK=>?_;simp only [go_sem,reduceIte,Nat.reduceEqDiff,Int.reduceLE];refine hK _ ?_;clear hK K;refine AW.ret ⟨.inr rfl,?_⟩;simp only [go_sem,reduceIte,Nat.reduceEqDiff];exact ⟨_,[],Conv.drop (fun _ _ h=>by cases h),.inr ⟨i+1,by omega,by omega,by omega,rfl,rfl⟩⟩
  have hsm:es3.length≤4096:=by
   have:¬ (4096:Int)<es3.length:=by simpa using hc
   omega
  refine zac ?_;refine ⟨(x::vis,l1++l2,es3,true),⟨hvr',hes3,by dsimp only; omega⟩,by simp,?_⟩;exact zam ⟨rfl,rfl,rfl,rfl,rfl,trivial⟩ ⟨qda,by simp [hget,hf1,hf2,hf3,hf4],by simp [hget,hf1,hf2,hf3,hf4],trivial⟩
 have hi2:=qq3 hc hi;subst hi2;refine AW.exit ?_;refine zah (fid:=79) (mt:=[]) [6,7] rfl fun K hK=>?_;simp only [go_sem,reduceIte,Nat.reduceEqDiff,Int.reduceLE];refine hK _ ?_;clear hK K;refine AW.ret ⟨.inr rfl,?_⟩;simp only [go_sem,reduceIte,Nat.reduceEqDiff];exact ⟨_,_,Conv.refl _ _,.inl ⟨hsz,_,_,_,rfl,rfl,hes⟩⟩
theorem qcY {l l':List (Nat × HV)} {H:Heap} (h:leS l l'):(⟨l,H⟩:AS).le ⟨l',H⟩:=⟨qaP h,fun _ _ h=>h⟩
set_option maxRecDepth 100000 in
theorem qiz {g:qaa} {s:Int} {L:List (Int × qaq)} (h:qcQ g s=some L):qnt Tryz.prog 110 [] [gF g,.fptr [hI s] 0] (L.map fun x=>[hI x.1,.agg [hI x.2.1,hI x.2.2.1,hI x.2.2.2]]):=by
  unfold qcQ at h;split at h
  · rename_i hm
    cases h;obtain ⟨gl,gs,es⟩:=g;dsimp only at hm ⊢;intro id ver H J Stop K hmn h0 hstep hdone hstop;refine ACall.of_body Tryz.func110 rfl rfl (lb rfl) ?_;unfold Tryz.f110;dsimp only [qaL,Nat.reduceAdd];refine zaa rfl fun K1 hK=>?_;refine bv rfl (qac qea rfl) (bv rfl (qad ty25 rfl (qaj rfl rfl)) (bv rfl (qav rfl rfl ty25 rfl) (mv rfl rfl ?_)));refine qab (hK _ (AW.to (qaZ (s':=⟨[(0,.yl id ver),(2,.fptr [hI s] 0),(7,slE eFromLabelTo es),(8,.int .i64 (es.length:Int)),(9,.int .i64 ((0:Nat):Int))],H⟩) (qcY ⟨rfl,rfl,rfl,rfl,rfl,trivial⟩) ?_)));clear hK K1;refine zaf ?_
    refine AW.loopS (fun p:Nat × Heap=>⟨[(0,.yl id ver),(2,.fptr [hI s] 0),(7,slE eFromLabelTo es),(8,.int .i64 (es.length:Int)),(9,.int .i64 (p.1:Int))],p.2⟩)
      (fun p=>p.1≤es.length∧J (qeL (es.take p.1) s).length p.2) (fun p=>es.length - p.1) (0,H) (AS.le_refl _) ⟨Nat.zero_le _,h0⟩ ?_
    rintro ⟨i,H1⟩ ⟨hi,hj⟩
    dsimp only at hi hj ⊢;refine zaa rfl fun K1 hK=>?_;refine bv rfl (qag rfl rfl qaF) ?_;refine qab (hK _ ?_);clear hK K1;refine zak rfl (fun hc=>?_) (fun hc=>?_)
    · have hi':i<es.length:=by have:=of_decide_eq_true hc; omega
      have hx:idx es (i:Int)=some es[i]:=ix hi';obtain ⟨f,hf⟩:=qm5 H1 5;refine zac ?_;refine zad (zaf ?_);refine zaa rfl fun K1 hK=>?_;refine mv rfl rfl (bv rfl (qaI ty25 es25 rfl rfl (qay hx)) (bv rfl (qad ty35 rfl (qgg eFromLabelTo hx rfl rfl)) ?_));refine b_op rfl (qaC (fid:=f) (zs:=[hI 0,hI 0,hI 0]) (f*1000+5) rfl rfl ty35 rfl (fun ov=>?_));refine mv rfl rfl ?_;refine b_op rfl (qax (cs:=qbi es[i]) (zs:=qbi es[i]) rfl rfl rfl ty35 rfl qda rfl rfl rfl ?_);refine qab (hK _ (AW.to (qaZ (s':=⟨[(0,.yl id ver),(2,.fptr [hI s] 0),(4,.int .i64 (i:Int)),(5,.ptr (f*1000+5) ov 0),(7,slE eFromLabelTo es),(8,.int .i64 (es.length:Int)),(9,.int .i64 (i:Int))],(f*1000+5,ov,.arr 3 35 (qbi es[i]))::H1⟩) ⟨qaP ⟨rfl,rfl,rfl,rfl,rfl,rfl,rfl,trivial⟩,fun j x hx=>?_⟩ ?_)))
      · simp only [hget] at hx ⊢
        split <;> rename_i hij
        · rw [if_pos hij] at hx; exact hx
        first | exact hx | (rw [if_neg hij] at hx; first | exact hx | (rw [if_neg hij]; exact hx)) | (rw [if_neg hij]; exact hx)
      clear hK K1;have hJ1:=hmn _ _ _ hj (qrN (ver:=ov) (ob:=.arr 3 35 (qbi es[i])) hf);refine zaa rfl fun K1 hK=>?_;refine bv rfl (qal qii rfl qda) (bv rfl (qaf ty31 rfl qda (qaj rfl rfl)) (bv rfl (qad ty31 rfl (qaj rfl rfl)) (bv rfl (qag rfl rfl qdT) (mv rfl rfl ?_))));have htk:=qmi es s hi';by_cases hs:es[i].1=s
      · rw [if_pos hs] at htk
        obtain ⟨rest,hr⟩:=qlk es s (i+1);rw [htk] at hr;refine b_T rfl rfl rfl rfl (decide_eq_true hs) (qai rfl (qaE rfl rfl).2 ?_);refine b_T rfl rfl rfl rfl rfl (qai rfl (qaE rfl rfl).2 ?_);refine b_T rfl rfl rfl rfl rfl (qai rfl (qaf ty35 rfl qda (qao (ds:=qbi es[i]) rfl (lb rfl) rfl)) ?_);refine b_T rfl rfl rfl rfl rfl (qoF (hs:=[hI (i:Int),.agg (qbi es[i])]) rfl rfl rfl ?_);refine (hstep (qeL (es.take i) s).length [hI (i:Int),.agg (qbi es[i])] _ ?_ hJ1).mono ?_
        · rw [List.getElem?_map,hr,List.append_assoc,List.getElem?_append_right (Nat.le_refl _),Nat.sub_self]
          rfl
        rintro r H2 ⟨b,rfl,h3,h4⟩
        refine b_T rfl rfl rfl rfl rfl (qai rfl (qdX rfl) ?_);refine bv rfl (qan rfl rfl rfl) ?_;refine qab (hK _ (AW.to (qaZ (s':=⟨[(0,.yl id ver),(2,.fptr [hI s] 0),(7,slE eFromLabelTo es),(8,.int .i64 (es.length:Int)),(9,.int .i64 (i:Int)),(24,.bool (!b))],H2⟩) (qcY ⟨rfl,rfl,rfl,rfl,rfl,rfl,trivial⟩) ?_)));clear hK K1;refine zae rfl (fun hc=>?_) (fun hc=>?_)
        · have hb:b=false:=by simpa using hc
          refine AW.ret ⟨.inr rfl,?_⟩;simp only [go_sem,reduceIte,Nat.reduceEqDiff];exact ⟨_,_,Conv.refl _ _,hstop _ (h4 hb)⟩
        have hb:b=true:=by simpa using hc
        refine zac ?_;refine AW.region (fid:=f) (mt:=[]) [0,2,7,8,9] rfl fun K hK=>?_;simp only [go_sem,reduceIte,Nat.reduceEqDiff,Int.reduceLE];refine hK _ ?_;refine ⟨(i+1,H2),⟨by dsimp only; omega,?_⟩,by dsimp only; omega,?_⟩
        · dsimp only
          rw [htk,List.length_append];exact h3 hb
        dsimp only;rw [qhx hm hi'];exact AS.le_refl _
      rw [if_neg hs,List.append_nil] at htk;refine b_F rfl rfl rfl rfl rfl (decide_eq_false hs) ?_
      iterate 4 refine b_F rfl rfl rfl rfl rfl rfl ?_
      refine bv rfl (qau rfl rfl rfl) ?_;refine qab (hK _ (AW.to (qaZ (s':=⟨[(0,.yl id ver),(2,.fptr [hI s] 0),(7,slE eFromLabelTo es),(8,.int .i64 (es.length:Int)),(9,.int .i64 (i:Int)),(24,.bool false)],_⟩) (qcY ⟨rfl,rfl,rfl,rfl,rfl,rfl,trivial⟩) ?_)));clear hK K1;refine zae rfl (fun hc=>by cases hc) (fun _=>?_);refine zac ?_;refine AW.region (fid:=f) (mt:=[]) [0,2,7,8,9] rfl fun K hK=>?_;simp only [go_sem,reduceIte,Nat.reduceEqDiff,Int.reduceLE];refine hK _ ?_;refine ⟨(i+1,(f*1000+5,ov,.arr 3 35 (qbi es[i]))::H1),⟨by dsimp only; omega,?_⟩,by dsimp only; omega,?_⟩
      · dsimp only
        rw [htk];exact hJ1
      dsimp only;rw [qhx hm hi'];exact AS.le_refl _
    have hi2:es.length≤i:=by have:=of_decide_eq_false hc; omega
    have hie:i=es.length:=by omega
    subst hie;rw [List.take_length] at hj;refine AW.exit ?_;refine ⟨.inl rfl,?_⟩;simp only [go_sem,reduceIte,Nat.reduceEqDiff];exact ⟨_,_,Conv.refl _ _,hdone _ (by rw [List.length_map]; exact hj)⟩
  cases h
def qds (s:List UInt8) (n:Int):Option (List UInt8):=if 0≤n∧n≤9223372036854775807∧s.length*n.toNat≤140737488355328 then some (List.replicate n.toNat s).flatten else none
def stpM (g:qaa) (a:List Int) (c:UInt8):List Int:=(qbl g a (c.toNat:Int)).getD []
def qmy (g:qaa) (set:List Int):Prop:=∃ A:List Int→Prop,A set∧∀ a c,A a→c∈letters.take g.1.toNat→∃ b,qbl g a (c.toNat:Int)=some b∧A b
open Classical in
def qb3 (g:qaa) (set:List Int) (n:Int):Option (List WS × Bool) :=
 if 0≤g.1∧g.1≤16∧0≤n∧qmy g set then
  some (if qp2 (stpM g) (letters.take g.1.toNat) set n.toNat=true then (lvl (stpM g) (letters.take g.1.toNat) set n.toNat,true) else ([],false))
 else none
def qbt (p0:qaa) (p1:Int):Option ((List (List UInt8)) × Int) :=
 (qcf p0 p1).bind fun x1 =>
 if x1≠0 then
  some ([],x1)
 else
  (qbz p0).bind fun x3 =>
  (qb3 p0 x3 p1).bind fun x5 =>
  if x5.2=true then
   some (sortS ((x5.1).map Prod.fst),0)
  else
   some ([],4)
def qa0 (p0:List (Int)) (p1:List (Int)):Option (Bool) :=
 if ((p0).length:Int)≠((p1).length:Int) then
  some false
 else
  lpO (loopW (S:=Int) (X:=Ou (Unit) (Bool)) (fun a1 =>
    if a1<((p0).length:Int) then
     (idx p0 a1).bind fun x5 =>
     (idx p1 a1).bind fun x7 =>
     if x5≠x7 then
      some (Stp.exit (Ou.ret false))
     else
      some (Stp.next (IntKind.wrap .i64 (a1+1)))
    else
     some (Stp.exit (Ou.go ()))) 0) (fun a9 =>
    some true) some
def qdO (p0:qaa):Option (Bool) :=
 jp (fun (a1:Bool) =>
  some a1)
  fun k3 =>
  if 8<p0.2.1 then
   if p0.2.1≤64 then
    k3 true
   else
    if 30<((p0.2.2).length:Int) then
     if ((p0.2.2).length:Int)≤1024 then
      k3 true
     else
      k3 (decide (1027<((p0.2.2).length:Int)))
    else
     k3 (decide (1027<((p0.2.2).length:Int)))
  else
   if 30<((p0.2.2).length:Int) then
    if ((p0.2.2).length:Int)≤1024 then
     k3 true
    else
     k3 (decide (1027<((p0.2.2).length:Int)))
   else
    k3 (decide (1027<((p0.2.2).length:Int)))
def qcX (p0:qaa) (p1:List (Int)) (p2:List UInt8):Option ((List (Int))) :=
 (loopW (S:=(List Int) × Int) (X:=(List Int)) (fun a1 =>
   jp (fun (a5:Bool) =>
    if a5=true then
     (idx p2 a1.2).bind fun x8 =>
     (qbl p0 a1.1 (x8.toNat:Int)).bind fun x10 =>
     some (Stp.next (x10,IntKind.wrap .i64 (a1.2+1)))
    else
     some (Stp.exit a1.1))
    fun k7 =>
    if a1.2<((p2).length:Int) then
     k7 (decide (0<((a1.1).length:Int)))
    else
     k7 false) (p1,0)).bind fun a13 =>
 some a13
def qa5 (p0:qaa) (p1:List UInt8):Option (Bool × Int) :=
 (qbA p0 p1).bind fun x1 =>
 if x1≠0 then
  some (false,x1)
 else
  (qbz p0).bind fun x3 =>
  (qcX p0 x3 p1).bind fun x5 =>
  some (decide (0<((x5).length:Int)),0)
set_option maxHeartbeats 1600000
set_option maxRecDepth 100000
theorem qh8 {p0:qaq} {r:(List (Int))} (h:qd7 p0=some r):Pure Tryz.prog 47 [.agg [hI p0.1,hI p0.2.1,hI p0.2.2]] (· = slE eInt r):=by
 unfold qd7 at h;refine zaj Tryz.func47 rfl rfl (lb rfl) fun hf=>?_;unfold Tryz.f47;dsimp only [qaL,Nat.reduceAdd];refine zaa rfl fun K hK=>b_op rfl (qbh rfl rfl rfl ?_);refine mv rfl rfl ?_;refine bf hK ⟨[(1,.fptr [hI p0.1,hI p0.2.1,hI p0.2.2] 0)],[]⟩ ?_;refine zaa rfl fun K hK=>bv rfl (qac qii rfl) (bv rfl (qad ty3 rfl (qaj rfl rfl)) (bv rfl (qac qj9 rfl) (bv rfl (qad ty3 rfl (qaj rfl rfl)) (bv rfl (qac qlx rfl) (bv rfl (qad ty3 rfl (qaj rfl rfl)) ?_)))));refine b_op rfl (qdx rfl rfl (qdp (cs:=[hI p0.1,hI p0.2.1,hI p0.2.2]) ty36 ty3 rfl rfl rfl rfl rfl) ?_);refine mv rfl rfl ?_;refine bf hK ⟨[(2,slE eInt [p0.1,p0.2.1,p0.2.2])],[]⟩ ?_;obtain rfl:=oi h;exact AW.ret (qae (.inr rfl) (resT rfl rfl) rfl (qar fun _ _=>⟨trivial,trivial⟩))
theorem qf3 {p0:Int} {r:Bool} (h:qb4 p0=some r):Pure Tryz.prog 122 [hI p0] (· = HV.bool r):=by
 unfold qb4 at h;refine zaj Tryz.func122 rfl rfl (lb rfl) fun hf=>?_;unfold Tryz.f122;dsimp only [qaL,Nat.reduceAdd];refine zaa rfl fun K hK=>mv rfl rfl ?_;refine bf hK ⟨[(0,hI p0)],[]⟩ ?_;refine zaa rfl fun K hK=>mv rfl rfl (mv rfl rfl (bv rfl (qag rfl rfl qcv) (mv rfl rfl ?_)));refine bf hK ⟨[(2,.bool (decide (p0≠p0)))],[]⟩ ?_;obtain rfl:=oi h;exact AW.ret (qae (.inr rfl) (resT rfl rfl) rfl trivial)
theorem qc1 {p0:Int} {p1:Int} {r:Int} (h:qa3 p0 p1=some r):Pure Tryz.prog 106 [hI p0,hI p1] (· = hI r):=by
 unfold qa3 at h;refine zaj Tryz.func106 rfl rfl (lb rfl) fun hf=>?_;unfold Tryz.f106;dsimp only [qaL,Nat.reduceAdd];refine zaa rfl fun K hK=>mv rfl rfl ?_;let P1:ASf:=fun t H=>⟨(0,hI p0)::(1,hI p1)::t,H⟩;refine bf hK (P1 [] []) ?_;refine zaa rfl fun K hK=>mv rfl rfl ?_;obtain ⟨x1,h2,h⟩:=bS h;refine b_op rfl (qat rfl rfl rfl rfl (zai (qf3 h2)) ?_);refine mv rfl rfl ?_;refine bf hK (P1 [(5,.bool x1)] []) ?_;refine zaa rfl fun K hK=>mv rfl rfl ?_;obtain ⟨x3,h4,h⟩:=bS h;refine b_op rfl (qat rfl rfl rfl rfl (zai (qf3 h4)) ?_);refine mv rfl rfl ?_;refine bf hK (P1 [(5,.bool x1),(6,.bool x3)] []) ?_;refine zad ?_;refine zaa rfl fun K hK=>mv rfl rfl ?_;refine bf hK (P1 [(6,.bool x3),(11,.bool x1)] []) ?_;refine zae rfl (fun hc=>?_) (fun hc=>?_)
 ·have h:=ifT hc h
  refine zad ?_;refine zaa rfl fun K hK=>mv rfl rfl ?_;refine bf hK ⟨[(12,.bool x3)],[]⟩ ?_;refine zae rfl (fun hc=>?_) (fun hc=>?_)
  ·have h:=ifT hc h
   refine zaa rfl fun K hK=>mv rfl rfl ?_;refine bf hK ⟨[(4,hI 0)],[]⟩ ?_;obtain rfl:=oi h;exact AW.ret (qae (.inr rfl) (resT rfl rfl) rfl trivial)
  have h:=ifF (bF' hc) h;refine zac ?_;refine zaa rfl fun K hK=>mv rfl rfl ?_;refine bf hK ⟨[(4,hI (-1))],[]⟩ ?_;obtain rfl:=oi h;exact AW.ret (qae (.inr rfl) (resT rfl rfl) rfl trivial)
 have h:=ifF (bF' hc) h;refine zac ?_;refine zad ?_;refine zaa rfl fun K hK=>mv rfl rfl ?_;refine bf hK (P1 [(13,.bool x3)] []) ?_;refine zae rfl (fun hc=>?_) (fun hc=>?_)
 ·have h:=ifT hc h
  refine zaa rfl fun K hK=>mv rfl rfl ?_;refine bf hK ⟨[(4,hI 1)],[]⟩ ?_;obtain rfl:=oi h;exact AW.ret (qae (.inr rfl) (resT rfl rfl) rfl trivial)
 have h:=ifF (bF' hc) h;refine zac ?_;refine zad ?_;refine zaa rfl fun K hK=>mv rfl rfl (mv rfl rfl (bv rfl (qag rfl rfl qaF) ?_));refine bf hK (P1 [(16,.bool (decide (p0<p1)))] []) ?_;refine zae rfl (fun hc=>?_) (fun hc=>?_)
 ·obtain ⟨hc,h⟩:=cT hc h
  refine zaa rfl fun K hK=>mv rfl rfl ?_;refine bf hK ⟨[(4,hI (-1))],[]⟩ ?_;obtain rfl:=oi h;exact AW.ret (qae (.inr rfl) (resT rfl rfl) rfl trivial)
 obtain ⟨hc,h⟩:=cF hc h;refine zac ?_;refine zad ?_;refine zaa rfl fun K hK=>mv rfl rfl (mv rfl rfl (bv rfl (qag rfl rfl qbB) ?_));refine bf hK ⟨[(19,.bool (decide (p1<p0)))],[]⟩ ?_;refine zae rfl (fun hc=>?_) (fun hc=>?_)
 ·obtain ⟨hc,h⟩:=cT hc h
  refine zaa rfl fun K hK=>mv rfl rfl ?_;refine bf hK ⟨[(4,hI 1)],[]⟩ ?_;obtain rfl:=oi h;exact AW.ret (qae (.inr rfl) (resT rfl rfl) rfl trivial)
 obtain ⟨hc,h⟩:=cF hc h;refine zac ?_;refine zaa rfl fun K hK=>mv rfl rfl ?_;refine bf hK ⟨[(4,hI 0)],[]⟩ ?_;obtain rfl:=oi h;exact AW.ret (qae (.inr rfl) (resT rfl rfl) rfl trivial)
theorem qe3 {p0:List (Int)} {p1:List (Int)} {r:Int} (h:qbD p0 p1=some r):Pure Tryz.prog 80 [slE eInt p0,slE eInt p1] (· = hI r):=by
 unfold qbD at h;refine zaj Tryz.func80 rfl rfl (lb rfl) fun hf=>?_;unfold Tryz.f80;dsimp only [qaL,Nat.reduceAdd];refine zaa rfl fun K hK=>mv rfl rfl ?_;let P2:ASf:=fun t H=>⟨(0,slE eInt p0)::(1,slE eInt p1)::t,H⟩;refine bf hK (P2 [] []) ?_;refine zad ?_;refine zaa rfl fun K hK=>mv rfl rfl (bv rfl (qav rfl rfl ty36 rfl) (mv rfl rfl ?_));let E1:Nat × HV:=(10,hI ((p0).length:Int));refine bf hK (P2 [(9,slE eInt p0),E1,(11,hI 0)] []) ?_;refine AW.lpR h (by first | exact qa8 | exact qc3) (S:=Int) (V:=Unit) (fun a v=>(P2 [(9,slE eInt p0),E1,(11,hI a)] [])) ?_ (X:=Unit) (W:=Unit) (fun a v=>(P2 [] [])) (fun a11 w12 h=>?_) (fun a1 w2 st3 h hr4=> ?_)
 ·exact to_L ⟨(),rfl⟩
 ·refine zad ?_
  refine zaa rfl fun K hK=>mv rfl rfl (bv rfl (qav rfl rfl ty36 rfl) (mv rfl rfl (bv rfl (qav rfl rfl ty36 rfl) (bv rfl (qag rfl rfl qaF) ?_))));refine bf hK ⟨[(35,.bool (decide (((p0).length:Int)<((p1).length:Int))))],[]⟩ ?_;refine zae rfl (fun hc=>?_) (fun hc=>?_)
  ·obtain ⟨hc,h⟩:=cT hc h
   refine zaa rfl fun K hK=>mv rfl rfl ?_;refine bf hK ⟨[(4,hI (-1))],[]⟩ ?_;obtain rfl:=oi h;exact AW.ret (qae (.inr rfl) (resT rfl rfl) rfl trivial)
  obtain ⟨hc,h⟩:=cF hc h;refine zac ?_;refine zaa rfl fun K hK=>mv rfl rfl ?_;refine bf hK ⟨[(4,hI 0)],[]⟩ ?_;obtain rfl:=oi h;exact AW.ret (qae (.inr rfl) (resT rfl rfl) rfl trivial)
 refine zaa rfl fun K hK=>bv rfl (qag rfl rfl qaF) ?_;refine bf hK (P2 [(9,slE eInt p0),E1,(11,hI a1),(12,.bool (decide (a1<((p0).length:Int))))] []) ?_;refine zak rfl (fun hc=>?_) (fun hc=>?_)
 ·obtain ⟨hc,h⟩:=cT hc h
  refine zac ?_;refine zad (zaf ?_);refine zaa rfl fun K hK=>mv rfl rfl ?_;obtain ⟨x5,h6,h⟩:=bS h;refine bv rfl (qaI ty36 es36 rfl rfl (qay h6)) (bv rfl (qad ty3 rfl (qaW eInt h6 (o:=0) rfl rfl)) (mv rfl rfl (mv rfl rfl ?_)));refine bf hK (P2 [(5,hI a1),(6,hI x5),(9,slE eInt p0),E1,(11,hI a1)] []) ?_;refine zad ?_;refine zaa rfl fun K hK=>mv rfl rfl (mv rfl rfl (bv rfl (qav rfl rfl ty36 rfl) (bv rfl (qag rfl rfl qgL) ?_)));refine bf hK (P2 [(5,hI a1),(6,hI x5),(9,slE eInt p0),E1,(11,hI a1),(19,.bool (decide (((p1).length:Int)≤a1)))] []) ?_;refine zae rfl (fun hc=>?_) (fun hc=>?_)
  ·obtain ⟨hc,h⟩:=cT hc h
   refine zaa rfl fun K hK=>mv rfl rfl ?_;refine bf hK ⟨[(4,hI 1)],[]⟩ ?_;have h:=hr4 _ h;obtain rfl:=oi h;exact AW.ret (qae (.inr rfl) (resT rfl rfl) rfl trivial)
  obtain ⟨hc,h⟩:=cF hc h;refine zac ?_;refine zaa rfl fun K hK=>mv rfl rfl (mv rfl rfl ?_);obtain ⟨x7,h8,h⟩:=bS h;refine bv rfl (qaI ty36 es36 rfl rfl (qay h8)) (bv rfl (qad ty3 rfl (qaW eInt h8 (o:=0) rfl rfl)) (mv rfl rfl ?_));refine bf hK (P2 [(6,hI x5),(7,hI x7),(9,slE eInt p0),E1,(11,hI a1)] []) ?_;refine zaa rfl fun K hK=>mv rfl rfl (mv rfl rfl ?_);obtain ⟨x9,h10,h⟩:=bS h;refine b_op rfl (qat rfl rfl rfl rfl (zai (qc1 h10)) ?_);refine mv rfl rfl ?_;refine bf hK (P2 [(8,hI x9),(9,slE eInt p0),E1,(11,hI a1)] []) ?_;refine zaa rfl fun K hK=>mv rfl rfl (bv rfl (qag rfl rfl qcv) ?_);refine bf hK (P2 [(8,hI x9),(9,slE eInt p0),E1,(11,hI a1),(28,.bool (decide (x9≠0)))] []) ?_;refine zae rfl (fun hc=>?_) (fun hc=>?_)
  ·obtain ⟨hc,h⟩:=cT hc h
   refine zaa rfl fun K hK=>mv rfl rfl (mv rfl rfl ?_);refine bf hK ⟨[(4,hI x9)],[]⟩ ?_;have h:=hr4 _ h;obtain rfl:=oi h;exact AW.ret (qae (.inr rfl) (resT rfl rfl) rfl trivial)
  obtain ⟨hc,h⟩:=cF hc h;refine zac ?_;refine zab rfl fun K hK=>bv rfl (qag rfl rfl qaX) (mv rfl rfl ?_);refine qab (hK _ ?_);exact to_L ⟨IntKind.wrap .i64 (a1+1),(),h,rfl⟩
 obtain ⟨hc,h⟩:=cF hc h;refine AW.exit ?_;exact to_L ⟨(),(),h,rfl⟩
theorem qf1 {p0:qaq} {p1:qaq} {r:Int} (h:qbG p0 p1=some r):Pure Tryz.prog 79 [.agg [hI p0.1,hI p0.2.1,hI p0.2.2],.agg [hI p1.1,hI p1.2.1,hI p1.2.2],.fptr [.fn (.func 47) [] []] 0] (· = hI r):=by
 unfold qbG at h;refine zaj Tryz.func79 rfl rfl (lb rfl) fun hf=>?_;unfold Tryz.f79;dsimp only [qaL,Nat.reduceAdd];refine zaa rfl fun K hK=>b_op rfl (qbh rfl rfl rfl ?_);refine b_op rfl (qbh rfl rfl rfl ?_);refine mv rfl rfl ?_;refine bf hK ⟨[(2,.fptr [.fn (.func 47) [] []] 0),(3,.fptr [hI p0.1,hI p0.2.1,hI p0.2.2] 0),(4,.fptr [hI p1.1,hI p1.2.1,hI p1.2.2] 0)],[]⟩ ?_;refine zao 8 follows rfl rfl fun K hK=>?_;refine sv rfl (qad ty97 rfl (qaj rfl rfl)) ?_;refine sv rfl (qad ty35 rfl (qao rfl (lb rfl) rfl)) ?_;obtain ⟨x1,h2,h⟩:=bS h;refine s_op rfl rfl (qaV rfl rfl rfl rfl (zai (qh8 h2)) ?_);refine sv rfl (qad ty97 rfl (qaj rfl rfl)) ?_;refine sv rfl (qad ty35 rfl (qao rfl (lb rfl) rfl)) ?_;obtain ⟨x3,h4,h⟩:=bS h;refine s_op rfl rfl (qaV rfl rfl rfl rfl (zai (qh8 h4)) ?_);obtain ⟨x5,h6,h⟩:=bS h;refine s_op rfl rfl (qaV rfl rfl rfl rfl (zai (qe3 h6)) ?_);refine sm rfl rfl ?_;refine qb7 ?_;refine bf hK ⟨[(5,hI x5)],[]⟩ ?_;obtain rfl:=oi h;exact AW.ret (qae (.inr rfl) (resT rfl rfl) rfl trivial)
theorem qgX  : Pure Tryz.prog 46 [.fn (.func 47) [] []] (· = HV.fn (.func 79) [] [.fptr [.fn (.func 47) [] []] 0]):=by
 refine zaj Tryz.func46 rfl rfl (lb rfl) fun hf=>?_;unfold Tryz.f46;dsimp only [qaL,Nat.reduceAdd];refine zaa rfl fun K hK=>b_op rfl (qbh rfl rfl rfl ?_);refine mv rfl rfl ?_;refine bf hK ⟨[(1,.fptr [.fn (.func 47) [] []] 0)],[]⟩ ?_;refine zaa rfl fun K hK=>bv rfl (qeT rfl rfl) (mv rfl rfl ?_);refine bf hK ⟨[(2,.fn (.func 79) [] [.fptr [.fn (.func 47) [] []] 0])],[]⟩ ?_;refine AW.ret ?_;exact qae (.inr rfl) (resT rfl rfl) rfl ⟨trivial,⟨⟨⟨trivial,trivial⟩,trivial⟩,trivial⟩⟩
theorem qc0 {p0:qaa} {r:Int} (h:qbE p0=some r):Pure Tryz.prog 16 [gA p0] (· = hI r):=by
 unfold qbE at h;refine zaj Tryz.func16 rfl rfl (lb rfl) fun hf=>?_;unfold Tryz.f16;dsimp only [qaL,Nat.reduceAdd];refine zaa rfl fun K hK=>b_op rfl (qbh rfl rfl rfl ?_);refine mv rfl rfl ?_;let P3:ASf:=fun t H=>⟨(1,gF p0)::t,H⟩;refine bf hK (P3 [] []) ?_;refine zad (zaf ?_);refine zag h (S:=Bool) (V:=Unit) (fun a v=>(P3 [(6,.bool a)] [])) (fun a1 w2 h=>?_) (fun k3 h=>?_)
 ·refine zae rfl (fun hc=>?_) (fun hc=>?_)
  ·have h:=ifT hc h
   refine zaa rfl fun K hK=>mv rfl rfl ?_;refine bf hK ⟨[(2,hI 12)],[]⟩ ?_;obtain rfl:=oi h;exact AW.ret (qae (.inr rfl) (resT rfl rfl) rfl trivial)
  have h:=ifF (bF' hc) h;refine zaa rfl fun K hK=>bv rfl (qac qfl rfl) (bv rfl (qad ty3 rfl (qaj rfl rfl)) (bv rfl (qag rfl rfl qaF) (mv rfl rfl ?_)));refine bf hK (P3 [(15,.bool (decide (p0.2.1<0)))] []) ?_;refine zae rfl (fun hc=>?_) (fun hc=>?_)
  ·obtain ⟨hc,h⟩:=cT hc h
   refine zaa rfl fun K hK=>mv rfl rfl ?_;refine bf hK ⟨[(2,hI 2)],[]⟩ ?_;obtain rfl:=oi h;exact AW.ret (qae (.inr rfl) (resT rfl rfl) rfl trivial)
  obtain ⟨hc,h⟩:=cF hc h;refine zag h (S:=Bool) (V:=Unit) (fun a v=>(P3 [(19,.bool a)] [])) (fun a4 w5 h=>?_) (fun k6 h=>?_)
  ·refine zae rfl (fun hc=>?_) (fun hc=>?_)
   ·have h:=ifT hc h
    refine zaa rfl fun K hK=>mv rfl rfl ?_;refine bf hK ⟨[(2,hI 4)],[]⟩ ?_;obtain rfl:=oi h;exact AW.ret (qae (.inr rfl) (resT rfl rfl) rfl trivial)
   have h:=ifF (bF' hc) h;refine zac ?_;refine zaa rfl fun K hK=>b_op rfl (qat rfl rfl rfl rfl (zai (qgX )) ?_);refine mv rfl rfl ?_;let E2:Nat × HV:=(3,.fn (.func 79) [] [.fptr [.fn (.func 47) [] []] 0]);refine bf hK (P3 [E2] []) ?_;refine zad ?_;refine zaa rfl fun K hK=>bv rfl (qac qea rfl) (bv rfl (qad ty25 rfl (qaj rfl rfl)) (bv rfl (qav rfl rfl ty25 rfl) (mv rfl rfl ?_)));let E3:Nat × HV:=(31,slE eFromLabelTo p0.2.2);let E4:Nat × HV:=(32,hI ((p0.2.2).length:Int));refine bf hK (P3 [E2,E3,E4,(33,hI 0)] []) ?_;refine AW.lpR h (by first | exact qa8 | exact qc3) (S:=Int) (V:=Unit) (fun a v=>(P3 [E2,E3,E4,(33,hI a)] [])) ?_ (X:=Unit) (W:=Unit) (fun a v=>⟨[],[]⟩) (fun a27 w28 h=>?_) (fun a7 w8 st9 h hr10=> ?_)
   ·exact to_L ⟨(),rfl⟩
   ·refine zaa rfl fun K hK=>mv rfl rfl ?_
    refine bf hK ⟨[(2,hI 0)],[]⟩ ?_;obtain rfl:=oi h;exact AW.ret (qae (.inr rfl) (resT rfl rfl) rfl trivial)
   refine zaa rfl fun K hK=>bv rfl (qag rfl rfl qaF) ?_;refine bf hK (P3 [E2,E3,E4,(33,hI a7),(34,.bool (decide (a7<((p0.2.2).length:Int))))] []) ?_;refine zak rfl (fun hc=>?_) (fun hc=>?_)
   ·obtain ⟨hc,h⟩:=cT hc h
    refine zac ?_;refine zad (zaf ?_);refine zaa rfl fun K hK=>mv rfl rfl ?_;obtain ⟨x11,h12,h⟩:=bS h;refine bv rfl (qaI ty25 es25 rfl rfl (qay h12)) (bv rfl (qad ty35 rfl (qgg eFromLabelTo h12 rfl rfl)) ?_);refine b_op rfl (qaC (fid:=16) (zs:=[hI 0,hI 0,hI 0]) 16005 rfl rfl ty35 rfl (fun v13=>?_));refine mv rfl rfl ?_;refine b_op rfl (qax (cs:=[hI x11.1,hI x11.2.1,hI x11.2.2]) (zs:=[hI x11.1,hI x11.2.1,hI x11.2.2]) rfl rfl rfl ty35 rfl rfl rfl rfl rfl ?_);refine bf hK (P3 [E2,(4,hI a7),(5,.ptr 16005 v13 0),E3,E4,(33,hI a7)] [(16005,v13,.arr 3 35 [hI x11.1,hI x11.2.1,hI x11.2.2])]) ?_;refine zad ?_;refine zag h (S:=Bool) (V:=Unit) (fun a v=>(P3 [E2,(4,hI a7),(5,.ptr 16005 v13 0),E3,E4,(33,hI a7),(62,.bool a)] [(16005,v13,.arr 3 35 [hI x11.1,hI x11.2.1,hI x11.2.2])])) (fun a14 w15 h=>?_) (fun k16 h=>?_)
    ·refine zae rfl (fun hc=>?_) (fun hc=>?_)
     ·have h:=ifT hc h
      refine zaa rfl fun K hK=>mv rfl rfl ?_;refine bf hK ⟨[(2,hI 2)],[]⟩ ?_;have h:=hr10 _ h;obtain rfl:=oi h;exact AW.ret (qae (.inr rfl) (resT rfl rfl) rfl trivial)
     have h:=ifF (bF' hc) h;refine zac ?_;refine zag h (S:=Bool) (V:=Unit) (fun a v=>(P3 [E2,E3,E4,(33,hI a7),(76,.bool a)] [])) (fun a17 w18 h=>?_) (fun k19 h=>?_)
     ·refine zae rfl (fun hc=>?_) (fun hc=>?_)
      ·have h:=ifT hc h
       refine zaa rfl fun K hK=>mv rfl rfl ?_;refine bf hK ⟨[(2,hI 10)],[]⟩ ?_;have h:=hr10 _ h;obtain rfl:=oi h;exact AW.ret (qae (.inr rfl) (resT rfl rfl) rfl trivial)
      have h:=ifF (bF' hc) h;refine zac ?_;refine zab rfl fun K hK=>bv rfl (qag rfl rfl qaX) (mv rfl rfl ?_);refine qab (hK _ ?_);exact to_L ⟨IntKind.wrap .i64 (a7+1),(),h,rfl⟩
     refine AW.dg 14 follows rfl rfl fun K hK=>?_;refine sm rfl rfl ?_;refine sv rfl (qag rfl rfl qbB) ?_;refine sm rfl rfl ?_;by_cases hg24:0<a7
     ·have h:=ifT hg24 h
      refine s_T rfl rfl rfl rfl rfl (decide_eq_true hg24) (qbe rfl (qaE rfl rfl).2 ?_);refine s_T rfl rfl rfl rfl rfl rfl (qbe rfl (qac qea rfl) ?_);refine s_T rfl rfl rfl rfl rfl rfl (qbe rfl (qad ty25 rfl (qaj rfl rfl)) ?_);refine s_T rfl rfl rfl rfl rfl rfl (qbe rfl (qaE rfl rfl).2 ?_);refine s_T rfl rfl rfl rfl rfl rfl (qbe rfl (qag rfl rfl qfX) ?_);obtain ⟨x20,h21,h⟩:=bS h;refine s_T rfl rfl rfl rfl rfl rfl (qbe rfl (qaI ty25 es25 rfl rfl (qay h21)) ?_);refine s_T rfl rfl rfl rfl rfl rfl (qbe rfl (qad ty35 rfl (qgg eFromLabelTo h21 rfl rfl)) ?_);refine s_T rfl rfl rfl rfl rfl rfl (qbe rfl (qaf ty35 rfl rfl (qao rfl (lb rfl) rfl)) ?_);obtain ⟨x22,h23,h⟩:=bS h;refine s_T rfl rfl rfl rfl rfl rfl (qaV rfl rfl rfl rfl (zai (qf1 h23)) ?_);refine s_T rfl rfl rfl rfl rfl rfl (qbe rfl (qag rfl rfl qgL) ?_);refine sv rfl (qan rfl rfl rfl) ?_;refine qb7 ?_;refine qab (hK _ ?_);exact to_L ⟨decide (0≤x22),(),h,rfl⟩
     have h:=ifF hg24 h;refine s_F rfl rfl rfl rfl rfl (decide_eq_false hg24) ?_
     iterate 9 refine s_F rfl rfl rfl rfl rfl rfl ?_
     refine sv rfl (qau rfl rfl rfl) ?_;refine qb7 ?_;refine qab (hK _ ?_);exact to_L ⟨false,(),h,rfl⟩
    refine zab rfl fun K hK=>bv rfl (qal qii rfl rfl) (bv rfl (qaf ty3 rfl rfl (qaj rfl rfl)) (bv rfl (qal qj9 rfl rfl) (bv rfl (qaf ty3 rfl rfl (qaj rfl rfl)) (bv rfl (qal qlx rfl rfl) (bv rfl (qaf ty3 rfl rfl (qaj rfl rfl)) ?_)))));refine bv rfl (qr1 rfl rfl rfl rfl) (bv rfl (qag rfl rfl qaF) (mv rfl rfl ?_));by_cases hg26:(min (min x11.1 x11.2.1) x11.2.2)<0
    ·have h:=ifT hg26 h
     refine b_F rfl rfl rfl rfl rfl (decide_eq_true hg26) ?_
     iterate 7 refine b_F rfl rfl rfl rfl rfl rfl ?_
     refine bv rfl (qan rfl rfl rfl) (mv rfl rfl ?_)
     iterate 5 refine b_F rfl rfl rfl rfl rfl rfl ?_
     refine bv rfl (qan rfl rfl rfl) ?_;refine qab (hK _ ?_);exact to_L ⟨true,(),h,rfl⟩
    have h:=ifF hg26 h;refine b_T rfl rfl rfl rfl (decide_eq_false hg26) (qai rfl (qal qii rfl rfl) ?_);refine b_T rfl rfl rfl rfl rfl (qai rfl (qaf ty3 rfl rfl (qaj rfl rfl)) ?_);refine b_T rfl rfl rfl rfl rfl (qai rfl (qal qlx rfl rfl) ?_);refine b_T rfl rfl rfl rfl rfl (qai rfl (qaf ty3 rfl rfl (qaj rfl rfl)) ?_);refine b_T rfl rfl rfl rfl rfl (qai rfl (qk2 rfl rfl rfl) ?_);refine b_T rfl rfl rfl rfl rfl (qai rfl (qac qfl rfl) ?_);refine b_T rfl rfl rfl rfl rfl (qai rfl (qad ty3 rfl (qaj rfl rfl)) ?_);refine b_T rfl rfl rfl rfl rfl (qai rfl (qag rfl rfl qgL) ?_);refine bv rfl (qau rfl rfl rfl) (mv rfl rfl ?_);by_cases hg25:p0.2.1≤(max x11.1 x11.2.2)
    ·have h:=ifT hg25 h
     refine b_F rfl rfl rfl rfl rfl (decide_eq_true hg25) ?_
     iterate 4 refine b_F rfl rfl rfl rfl rfl rfl ?_
     refine bv rfl (qan rfl rfl rfl) ?_;refine qab (hK _ ?_);exact to_L ⟨true,(),h,rfl⟩
    have h:=ifF hg25 h;refine b_T rfl rfl rfl rfl (decide_eq_false hg25) (qai rfl (qal qj9 rfl rfl) ?_);refine b_T rfl rfl rfl rfl rfl (qai rfl (qaf ty3 rfl rfl (qaj rfl rfl)) ?_);refine b_T rfl rfl rfl rfl rfl (qai rfl (qac qij rfl) ?_);refine b_T rfl rfl rfl rfl rfl (qai rfl (qad ty3 rfl (qaj rfl rfl)) ?_);refine b_T rfl rfl rfl rfl rfl (qai rfl (qag rfl rfl qgL) ?_);refine bv rfl (qau rfl rfl rfl) ?_;refine qab (hK _ ?_);exact to_L ⟨decide (p0.1≤x11.2.1),(),h,rfl⟩
   obtain ⟨hc,h⟩:=cF hc h;refine AW.exit ?_;exact to_L ⟨(),(),h,rfl⟩
  refine zab rfl fun K hK=>bv rfl (qac qfl rfl) (bv rfl (qad ty3 rfl (qaj rfl rfl)) (bv rfl (qag rfl rfl qbB) (mv rfl rfl ?_)));by_cases hg29:64<p0.2.1
  ·have h:=ifT hg29 h
   refine b_F rfl rfl rfl rfl rfl (decide_eq_true hg29) ?_
   iterate 3 refine b_F rfl rfl rfl rfl rfl rfl ?_
   refine bv rfl (qan rfl rfl rfl) (mv rfl rfl ?_);refine qab (hK _ ?_);exact to_L ⟨true,(),h,rfl⟩
  have h:=ifF hg29 h;refine b_T rfl rfl rfl rfl (decide_eq_false hg29) (qai rfl (qac qea rfl) ?_);refine b_T rfl rfl rfl rfl rfl (qai rfl (qad ty25 rfl (qaj rfl rfl)) ?_);refine b_T rfl rfl rfl rfl rfl (qai rfl (qav rfl rfl ty25 rfl) ?_);refine b_T rfl rfl rfl rfl rfl (qai rfl (qag rfl rfl qbB) ?_);refine bv rfl (qau rfl rfl rfl) (mv rfl rfl ?_);refine qab (hK _ ?_);exact to_L ⟨decide (1024<((p0.2.2).length:Int)),(),h,rfl⟩
 refine zab rfl fun K hK=>bv rfl (qac qij rfl) (bv rfl (qad ty3 rfl (qaj rfl rfl)) (bv rfl (qag rfl rfl qaF) (mv rfl rfl ?_)));by_cases hg30:p0.1<1
 ·have h:=ifT hg30 h
  refine b_F rfl rfl rfl rfl rfl (decide_eq_true hg30) ?_
  iterate 2 refine b_F rfl rfl rfl rfl rfl rfl ?_
  refine bv rfl (qan rfl rfl rfl) (mv rfl rfl ?_);refine qab (hK _ ?_);exact to_L ⟨true,(),h,rfl⟩
 have h:=ifF hg30 h;refine b_T rfl rfl rfl rfl (decide_eq_false hg30) (qai rfl (qac qij rfl) ?_);refine b_T rfl rfl rfl rfl rfl (qai rfl (qad ty3 rfl (qaj rfl rfl)) ?_);refine b_T rfl rfl rfl rfl rfl (qai rfl (qag rfl rfl qbB) ?_);refine bv rfl (qau rfl rfl rfl) (mv rfl rfl ?_);refine qab (hK _ ?_);exact to_L ⟨decide (256<p0.1),(),h,rfl⟩
theorem qir {p0:qaa} {p1:List (Int)} {r:Int} (h:qcJ p0 p1=some r):Pure Tryz.prog 92 [gA p0,slE eInt p1] (· = hI r):=by
 unfold qcJ at h;refine zaj Tryz.func92 rfl rfl (lb rfl) fun hf=>?_;unfold Tryz.f92;dsimp only [qaL,Nat.reduceAdd];refine zaa rfl fun K hK=>b_op rfl (qbh rfl rfl rfl ?_);refine mv rfl rfl ?_;let P4:ASf:=fun t H=>⟨(1,slE eInt p1)::(2,gF p0)::t,H⟩;refine bf hK (P4 [] []) ?_;refine zad ?_;refine zaa rfl fun K hK=>mv rfl rfl (bv rfl (qav rfl rfl ty36 rfl) (mv rfl rfl ?_));let E5:Nat × HV:=(8,hI ((p1).length:Int));refine bf hK (P4 [(7,slE eInt p1),E5,(9,hI 0)] []) ?_;refine AW.lpR h (by first | exact qa8 | exact qc3) (S:=Int) (V:=Unit) (fun a v=>(P4 [(7,slE eInt p1),E5,(9,hI a)] [])) ?_ (X:=Unit) (W:=Unit) (fun a v=>⟨[],[]⟩) (fun a17 w18 h=>?_) (fun a1 w2 st3 h hr4=> ?_)
 ·exact to_L ⟨(),rfl⟩
 ·refine zaa rfl fun K hK=>mv rfl rfl ?_
  refine bf hK ⟨[(4,hI 0)],[]⟩ ?_;obtain rfl:=oi h;exact AW.ret (qae (.inr rfl) (resT rfl rfl) rfl trivial)
 refine zaa rfl fun K hK=>bv rfl (qag rfl rfl qaF) ?_;refine bf hK (P4 [(7,slE eInt p1),E5,(9,hI a1),(10,.bool (decide (a1<((p1).length:Int))))] []) ?_;refine zak rfl (fun hc=>?_) (fun hc=>?_)
 ·obtain ⟨hc,h⟩:=cT hc h
  refine zac ?_;refine zad (zaf ?_);refine zaa rfl fun K hK=>mv rfl rfl ?_;obtain ⟨x5,h6,h⟩:=bS h;refine bv rfl (qaI ty36 es36 rfl rfl (qay h6)) (bv rfl (qad ty3 rfl (qaW eInt h6 (o:=0) rfl rfl)) (mv rfl rfl (mv rfl rfl ?_)));refine bf hK (P4 [(5,hI a1),(6,hI x5),(7,slE eInt p1),E5,(9,hI a1)] []) ?_;refine zad ?_;refine zag h (S:=Bool) (V:=Unit) (fun a v=>(P4 [(5,hI a1),(6,hI x5),(7,slE eInt p1),E5,(9,hI a1),(21,.bool a)] [])) (fun a7 w8 h=>?_) (fun k9 h=>?_)
  ·refine zae rfl (fun hc=>?_) (fun hc=>?_)
   ·have h:=ifT hc h
    refine zaa rfl fun K hK=>mv rfl rfl ?_;refine bf hK ⟨[(4,hI 25)],[]⟩ ?_;have h:=hr4 _ h;obtain rfl:=oi h;exact AW.ret (qae (.inr rfl) (resT rfl rfl) rfl trivial)
   have h:=ifF (bF' hc) h;refine zac ?_;refine zag h (S:=Bool) (V:=Unit) (fun a v=>(P4 [(7,slE eInt p1),E5,(9,hI a1),(32,.bool a)] [])) (fun a10 w11 h=>?_) (fun k12 h=>?_)
   ·refine zae rfl (fun hc=>?_) (fun hc=>?_)
    ·have h:=ifT hc h
     refine zaa rfl fun K hK=>mv rfl rfl ?_;refine bf hK ⟨[(4,hI 10)],[]⟩ ?_;have h:=hr4 _ h;obtain rfl:=oi h;exact AW.ret (qae (.inr rfl) (resT rfl rfl) rfl trivial)
    have h:=ifF (bF' hc) h;refine zac ?_;refine zab rfl fun K hK=>bv rfl (qag rfl rfl qaX) (mv rfl rfl ?_);refine qab (hK _ ?_);exact to_L ⟨IntKind.wrap .i64 (a1+1),(),h,rfl⟩
   refine zab rfl fun K hK=>mv rfl rfl (bv rfl (qag rfl rfl qbB) (mv rfl rfl ?_));by_cases hg15:0<a1
   ·have h:=ifT hg15 h
    refine b_T rfl rfl rfl rfl (decide_eq_true hg15) (qai rfl (qaE rfl rfl).2 ?_)
    iterate 2 refine b_T rfl rfl rfl rfl rfl (qai rfl (qaE rfl rfl).2 ?_)
    refine b_T rfl rfl rfl rfl rfl (qai rfl (qag rfl rfl qfX) ?_);obtain ⟨x13,h14,h⟩:=bS h;refine b_T rfl rfl rfl rfl rfl (qai rfl (qaI ty36 es36 rfl rfl (qay h14)) ?_);refine b_T rfl rfl rfl rfl rfl (qai rfl (qad ty3 rfl (qaW eInt h14 (o:=0) rfl rfl)) ?_);refine b_T rfl rfl rfl rfl rfl (qai rfl (qag rfl rfl qnZ) ?_);refine bv rfl (qan rfl rfl rfl) ?_;refine qab (hK _ ?_);exact to_L ⟨decide (x5≤x13),(),h,rfl⟩
   have h:=ifF hg15 h;refine b_F rfl rfl rfl rfl rfl (decide_eq_false hg15) ?_
   iterate 6 refine b_F rfl rfl rfl rfl rfl rfl ?_
   refine bv rfl (qau rfl rfl rfl) ?_;refine qab (hK _ ?_);exact to_L ⟨false,(),h,rfl⟩
  refine zab rfl fun K hK=>mv rfl rfl (bv rfl (qag rfl rfl qaF) (mv rfl rfl ?_));by_cases hg16:x5<0
  ·have h:=ifT hg16 h
   refine b_F rfl rfl rfl rfl rfl (decide_eq_true hg16) ?_
   iterate 3 refine b_F rfl rfl rfl rfl rfl rfl ?_
   refine bv rfl (qan rfl rfl rfl) ?_;refine qab (hK _ ?_);exact to_L ⟨true,(),h,rfl⟩
  have h:=ifF hg16 h;refine b_T rfl rfl rfl rfl (decide_eq_false hg16) (qai rfl (qaE rfl rfl).2 ?_);refine b_T rfl rfl rfl rfl rfl (qai rfl (qac qfl rfl) ?_);refine b_T rfl rfl rfl rfl rfl (qai rfl (qad ty3 rfl (qaj rfl rfl)) ?_);refine b_T rfl rfl rfl rfl rfl (qai rfl (qag rfl rfl qgL) ?_);refine bv rfl (qau rfl rfl rfl) ?_;refine qab (hK _ ?_);exact to_L ⟨decide (p0.2.1≤x5),(),h,rfl⟩
 obtain ⟨hc,h⟩:=cF hc h;refine AW.exit ?_;exact to_L ⟨(),(),h,rfl⟩
theorem qiY (p0:qaa) (p1:Int):Pure Tryz.prog 93 [gA p0,hI p1] (· = HV.fn (.func 110) [] [gF p0,.fptr [hI p1] 0]):=by
 refine zaj Tryz.func93 rfl rfl (lb rfl) fun hf=>?_;unfold Tryz.f93;dsimp only [qaL,Nat.reduceAdd];refine zaa rfl fun K hK=>b_op rfl (qbh rfl rfl rfl ?_);refine b_op rfl (qbh rfl rfl rfl ?_);refine mv rfl rfl ?_;refine bf hK ⟨[(2,gF p0),(3,.fptr [hI p1] 0)],[]⟩ ?_;refine zaa rfl fun K hK=>bv rfl (qeT rfl rfl) (mv rfl rfl ?_);refine bf hK ⟨[(4,.fn (.func 110) [] [gF p0,.fptr [hI p1] 0])],[]⟩ ?_;refine AW.ret ?_;exact qae (.inr rfl) (resT rfl rfl) rfl ⟨trivial,⟨⟨trivial,trivial,(qar fun _ _=>⟨trivial,trivial,trivial,trivial⟩),trivial⟩,⟨trivial,trivial⟩,trivial⟩⟩
theorem qh9 {p0:qaa} {p1:List (Int)} {p2:Int} {r:(List (Int)) × Int} (h:qdE p0 p1 p2=some r):Pure Tryz.prog 62 [gA p0,slE eInt p1,hI p2] (· = HV.tup [slE eInt r.1,hI r.2]):=by
 unfold qdE at h;refine zaj Tryz.func62 rfl rfl (lb rfl) fun hf=>?_;unfold Tryz.f62;dsimp only [qaL,Nat.reduceAdd];refine zaa rfl fun K hK=>b_op rfl (qbh rfl rfl rfl ?_);refine b_op rfl (qbh rfl rfl rfl ?_);refine mv rfl rfl (mv rfl rfl ?_);let P1:ASf:=fun t H=>⟨(1,slE eInt p1)::(3,gF p0)::(5,.fptr [hI p2] 0)::t,H⟩;refine bf hK (P1 [] []) ?_;refine zad ?_;refine zaa rfl fun K hK=>bv rfl (qad ty27 rfl (qao rfl (lb rfl) rfl)) ?_;obtain ⟨x1,h2,h⟩:=bS h;refine b_op rfl (qat rfl rfl rfl rfl (zai (qc0 h2)) ?_);refine bv rfl (qag rfl rfl qcv) ?_;refine bf hK (P1 [(16,.bool (decide (x1≠0)))] []) ?_;refine zae rfl (fun hc=>?_) (fun hc=>?_)
 ·obtain ⟨hc,h⟩:=cT hc h
  refine zaa rfl fun K hK=>mv rfl rfl (mv rfl rfl ?_);refine bf hK ⟨[(6,.v (.slice none 0 0)),(7,hI 1)],[]⟩ ?_;refine AW.to (qcR ⟨[(6,slE eInt ([]:List Int)),(7,hI 1)],[]⟩ ⟨⟨_,rfl,.nil _⟩,⟨_,rfl,.refl _⟩,trivial⟩ trivial ?_);obtain rfl:=oi h;exact AW.ret (qae (.inr rfl) (resT rfl (resT rfl rfl)) rfl ⟨(qar fun _ _=>⟨trivial,trivial⟩),trivial,trivial⟩)
 obtain ⟨hc,h⟩:=cF hc h;refine zac ?_;refine zad ?_;refine zaa rfl fun K hK=>bv rfl (qad ty27 rfl (qao rfl (lb rfl) rfl)) (mv rfl rfl ?_);obtain ⟨x3,h4,h⟩:=bS h;refine b_op rfl (qat rfl rfl rfl rfl (zai (qir h4)) ?_);refine mv rfl rfl ?_;refine bf hK (P1 [(8,hI x3)] []) ?_;refine zaa rfl fun K hK=>mv rfl rfl (bv rfl (qag rfl rfl qcv) ?_);refine bf hK (P1 [(8,hI x3),(21,.bool (decide (x3≠0)))] []) ?_;refine zae rfl (fun hc=>?_) (fun hc=>?_)
 ·obtain ⟨hc,h⟩:=cT hc h
  refine zaa rfl fun K hK=>mv rfl rfl (mv rfl rfl (mv rfl rfl ?_));refine bf hK ⟨[(6,.v (.slice none 0 0)),(7,hI x3)],[]⟩ ?_;refine AW.to (qcR ⟨[(6,slE eInt ([]:List Int)),(7,hI x3)],[]⟩ ⟨⟨_,rfl,.nil _⟩,⟨_,rfl,.refl _⟩,trivial⟩ trivial ?_);obtain rfl:=oi h;exact AW.ret (qae (.inr rfl) (resT rfl (resT rfl rfl)) rfl ⟨(qar fun _ _=>⟨trivial,trivial⟩),trivial,trivial⟩)
 obtain ⟨hc,h⟩:=cF hc h;refine zac ?_;refine zad ?_;refine zag h (S:=Bool) (V:=Unit) (fun a v=>(P1 [(30,.bool a)] [])) (fun a5 w6 h=>?_) (fun k7 h=>?_)
 ·refine zae rfl (fun hc=>?_) (fun hc=>?_)
  ·have h:=ifT hc h
   refine zaa rfl fun K hK=>mv rfl rfl (mv rfl rfl ?_);refine bf hK ⟨[(6,.v (.slice none 0 0)),(7,hI 2)],[]⟩ ?_;refine AW.to (qcR ⟨[(6,slE eInt ([]:List Int)),(7,hI 2)],[]⟩ ⟨⟨_,rfl,.nil _⟩,⟨_,rfl,.refl _⟩,trivial⟩ trivial ?_);obtain rfl:=oi h;exact AW.ret (qae (.inr rfl) (resT rfl (resT rfl rfl)) rfl ⟨(qar fun _ _=>⟨trivial,trivial⟩),trivial,trivial⟩)
  have h:=ifF (bF' hc) h;refine zac ?_;refine zaa rfl fun K hK=>b_op rfl (qaC (fid:=62) (zs:=[.v (.slice none 0 0)]) 62009 rfl rfl ty36 rfl (fun v8=>?_));refine bf hK (P1 [(9,.ptr 62009 v8 0)] [(62009,v8,.arr 1 36 [.v (.slice none 0 0)])]) ?_;refine zad ?_;refine zaa rfl fun K hK=>mv rfl rfl (bv rfl (qav rfl rfl ty36 rfl) (mv rfl rfl ?_));let E1:Nat × HV:=(32,hI ((p1).length:Int));let P2:ASf:=fun t H=>⟨(3,gF p0)::(5,.fptr [hI p2] 0)::(9,.ptr 62009 v8 0)::(31,slE eInt p1)::E1::t,H⟩;refine bf hK (P2 [(33,hI 0)] [(62009,v8,.arr 1 36 [.v (.slice none 0 0)])]) ?_;refine AW.lpX h (by first | exact qa8 | exact qc3) (S:=Int × (List Int)) (V:=Nat) (fun a v=>(P2 [(33,hI a.1)] [(62009,v8,.arr 1 36 [.ar 62050 v eInt.k 0 ((a.2).length)]),(62050,v,.arr eInt.k 3 (eInt.E a.2))])) ?_ (X:=(List Int)) (W:=Nat) (fun a v=>⟨[(9,.ptr 62009 v8 0)],[(62009,v8,.arr 1 36 [.ar 62050 v eInt.k 0 ((a).length)]),(62050,v,.arr eInt.k 3 (eInt.E a))]⟩) (fun a31 w32 h=>?_) (fun a9 w10 st11 h=>?_)
  ·refine qeE (qhM 62050 62009 v8 1 0 eInt.k 3 36 rfl rfl (by decide) fun v30=>?_)
   exact qaZ (s':=(P2 [(33,hI 0)] [(62009,v8,.arr 1 36 [.ar 62050 v30 eInt.k 0 ((([]:List Int)).length)]),(62050,v30,.arr eInt.k 3 (eInt.E ([]:List Int)))])) (zam ⟨rfl,rfl,rfl,rfl,rfl,rfl,trivial⟩ ⟨hle rfl (by first | rfl | simp only [List.length_set,qcS,qcq,List.length_reverse]),rfl,trivial⟩) ⟨v30,rfl⟩
  ·refine zaa rfl fun K hK=>bv rfl (qaf ty36 rfl rfl (qaj rfl rfl)) ?_
   obtain ⟨h33,h⟩:=ifN h;refine b_op rfl (qrt qrQ (l:=a31) rfl rfl rfl rfl h33 ?_);refine qmw hK (s':=⟨[(9,.ptr 62009 v8 0)],[(62009,v8,.arr 1 36 [.ar 62050 w32 eInt.k 0 ((sortI a31).length)]),(62050,w32,.arr eInt.k 3 (eInt.E (sortI a31)))]⟩) (zam ⟨rfl,trivial⟩ ⟨hle rfl (by first | rfl | simp only [List.length_set,qcS,qcq,List.length_reverse]),rfl,trivial⟩) ?_;refine zaa rfl fun K hK=>bv rfl (qaf ty36 rfl rfl (qaj rfl rfl)) ?_;refine b_op rfl (qmb (q:=slE eInt (qaY (sortI a31))) [(62009,v8,.arr 1 36 [.ar 62050 w32 eInt.k 0 ((sortI a31).length)])] rfl rfl rfl rfl (fun K hK=>qnY (H':=[(62009,v8,.arr 1 36 [.ar 62050 w32 eInt.k 0 ((sortI a31).length)])]) (l:=sortI a31) rfl rfl (qcF ⟨rfl,trivial⟩) rfl hK) ?_);refine mv rfl rfl (mv rfl rfl ?_);refine bf hK ⟨[(6,slE eInt (qaY (sortI a31))),(7,hI 0)],[]⟩ ?_;obtain rfl:=oi h;exact AW.ret (qae (.inr rfl) (resT rfl (resT rfl rfl)) rfl ⟨(qar fun _ _=>⟨trivial,trivial⟩),trivial,trivial⟩)
  refine zaa rfl fun K hK=>bv rfl (qag rfl rfl qaF) ?_;let O2:Nat × Nat × AObj:=(62009,v8,.arr 1 36 [.ar 62050 w10 eInt.k 0 ((a9.2).length)]);let O3:Nat × Nat × AObj:=(62050,w10,.arr eInt.k 3 (eInt.E a9.2));refine bf hK (P2 [(33,hI a9.1),(34,.bool (decide (a9.1<((p1).length:Int))))] [O2,O3]) ?_;refine zak rfl (fun hc=>?_) (fun hc=>?_)
  ·obtain ⟨hc,h⟩:=cT hc h
   refine zac ?_;refine zad (zaf ?_);refine zaa rfl fun K hK=>?_;obtain ⟨x13,h14,h⟩:=bS h;refine bv rfl (qaI ty36 es36 rfl rfl (qay h14)) (bv rfl (qad ty3 rfl (qaW eInt h14 (o:=0) rfl rfl)) (mv rfl rfl ?_));refine bf hK ⟨[(3,gF p0),(5,.fptr [hI p2] 0),(9,.ptr 62009 v8 0),(11,hI x13),(31,slE eInt p1),E1,(33,hI a9.1)],[O2,O3]⟩ ?_;refine zaa rfl fun K hK=>bv rfl (qad ty27 rfl (qao rfl (lb rfl) rfl)) (mv rfl rfl ?_);refine b_op rfl (qat rfl rfl rfl rfl (zai (qiY p0 x13)) ?_);refine bf hK (P2 [(33,hI a9.1),(39,.fn (.func 110) [] [gF p0,.fptr [hI x13] 0])] [O2,O3]) ?_;refine zaf ?_;refine AW.to (qaZ (s':=(P2 [(33,hI a9.1),(39,.fn (.func 110) [] [gF p0,.fptr [hI x13] 0])] [O2,O3])) (le_q rfl rfl) ?_);obtain ⟨L15,h16,h⟩:=bS h;refine AW.rangeY (c:=.ret) 62900 (fun x=>[hI x.1,.agg [hI x.2.1,hI x.2.2.1,hI x.2.2.2]]) h (by first | exact qa8 | exact qc3) rfl (qiz h16) (S:=(List Int)) (V:=Nat) (fun a v=>[(62009,v8,.arr 1 36 [.ar 62050 v eInt.k 0 ((a).length)]),(62050,v,.arr eInt.k 3 (eInt.E a))]) w10 (X:=Unit) (W:=Unit) (fun _ _=>[]) (fun _ _=>rfl) (fun _ _=>rfl) rfl (fun _=>rfl) (fun a26 w27 h=>?_) (fun a28 w29 h=>?_) (fun Lo l22 v20 a17 x19 w18 st21 h=>?_)
   ·refine zab rfl fun K hK=>bv rfl (qag rfl rfl qaX) (mv rfl rfl ?_)
    refine qab (hK _ ?_);exact to_L ⟨(IntKind.wrap .i64 (a9.1+1),a26),w27,h,rfl⟩
   ·cases h
   refine zab rfl fun K hK=>b_op rfl (qaC (fid:=62) (zs:=[hI 0,hI 0,hI 0]) 62013 rfl rfl ty35 rfl (fun v23=>?_));refine b_op rfl (qax (cs:=[hI x19.2.1,hI x19.2.2.1,hI x19.2.2.2]) (zs:=[hI x19.2.1,hI x19.2.2.1,hI x19.2.2.2]) rfl rfl rfl ty35 rfl rfl rfl rfl rfl ?_);refine qab (hK _ ?_);refine ⟨rfl,rfl,?_⟩;refine zaf ?_;refine zaa rfl fun K hK=>bv rfl (qal qj9 rfl rfl) (bv rfl (qaf ty3 rfl rfl (qaj rfl rfl)) (bv rfl (qad ty3 rfl (qaj rfl rfl)) (bv rfl (qag rfl rfl qdT) ?_)));refine bf hK ⟨[(3,gF p0),(5,.fptr [hI p2] 0),(9,.ptr 62009 v8 0),(13,.ptr 62013 v23 0),(31,slE eInt p1),E1,(33,hI a9.1),(41,.agg [hI x19.2.1,hI x19.2.2.1,hI x19.2.2.2]),(45,.bool (decide (x19.2.2.1=p2)))],[(62900,v20,Lo .busy none),(62009,v8,.arr 1 36 [.ar 62050 w18 eInt.k 0 ((a17).length)]),(62050,w18,.arr eInt.k 3 (eInt.E a17)),(62013,v23,.arr 3 35 [hI x19.2.1,hI x19.2.2.1,hI x19.2.2.2])]⟩ ?_;refine zae rfl (fun hc=>?_) (fun hc=>?_)
   ·obtain ⟨hc,h⟩:=cT hc h
    refine zab rfl fun K hK=>bv rfl (qaf ty36 rfl rfl (qaj rfl rfl)) (bv rfl (qal qlx rfl rfl) (bv rfl (qaf ty3 rfl rfl (qaj rfl rfl)) ?_));refine b_op rfl (qdx rfl rfl (qdp (cs:=[hI x19.2.2.2]) ty36 ty3 rfl rfl rfl rfl rfl) ?_);obtain ⟨h25,h⟩:=ifN h;refine b_op rfl (qeF eInt (l:=a17) (m:=[x19.2.2.2]) rfl rfl ty36 ty36 ty3 rfl rfl rfl rfl rfl h25 (fun v24=>?_));refine b_op rfl (qax (cs:=[.ar 62050 v24 eInt.k 0 ((a17++[x19.2.2.2]).length)]) (zs:=[.ar 62050 v24 eInt.k 0 ((a17++[x19.2.2.2]).length)]) rfl rfl rfl ty36 rfl rfl rfl rfl rfl ?_);refine qab (hK _ ?_);exact ⟨a17++[x19.2.2.2],v24,h,(zam trivial ⟨rfl,rfl,rfl,trivial⟩)⟩
   obtain ⟨hc,h⟩:=cF hc h;refine zac ?_;exact ⟨a17,w18,h,(zam trivial ⟨rfl,rfl,rfl,trivial⟩)⟩
  obtain ⟨hc,h⟩:=cF hc h;refine AW.exit ?_;exact to_L ⟨a9.2,w10,h,rfl⟩
 refine zab rfl fun K hK=>bv rfl (qad ty3 rfl (qaj rfl rfl)) (bv rfl (qag rfl rfl qaF) (mv rfl rfl ?_));by_cases hg34:p2<0
 ·have h:=ifT hg34 h
  refine b_F rfl rfl rfl rfl rfl (decide_eq_true hg34) ?_
  iterate 3 refine b_F rfl rfl rfl rfl rfl rfl ?_
  refine bv rfl (qan rfl rfl rfl) ?_;refine qab (hK _ ?_);exact to_L ⟨true,(),h,rfl⟩
 have h:=ifF hg34 h;refine b_T rfl rfl rfl rfl (decide_eq_false hg34) (qai rfl (qad ty3 rfl (qaj rfl rfl)) ?_);refine b_T rfl rfl rfl rfl rfl (qai rfl (qac qij rfl) ?_);refine b_T rfl rfl rfl rfl rfl (qai rfl (qad ty3 rfl (qaj rfl rfl)) ?_);refine b_T rfl rfl rfl rfl rfl (qai rfl (qag rfl rfl qgL) ?_);refine bv rfl (qau rfl rfl rfl) ?_;refine qab (hK _ ?_);exact to_L ⟨decide (p0.1≤p2),(),h,rfl⟩
theorem qf0 {p0:qaa} {p1:List (Int)} {p2:Int} {r:(List (Int))} (h:qbl p0 p1 p2=some r):Pure Tryz.prog 75 [gA p0,slE eInt p1,.int .u8 p2] (· = slE eInt r):=by
 unfold qbl at h;refine zaj Tryz.func75 rfl rfl (lb rfl) fun hf=>?_;unfold Tryz.f75;dsimp only [qaL,Nat.reduceAdd];refine zaa rfl fun K hK=>b_op rfl (qbh rfl rfl rfl ?_);refine mv rfl rfl ?_;refine bf hK ⟨[(1,slE eInt p1),(2,.int .u8 p2),(3,gF p0)],[]⟩ ?_;refine zao 10 follows rfl rfl fun K hK=>?_;refine sv rfl (qad ty27 rfl (qao rfl (lb rfl) rfl)) ?_
 iterate 2 refine sm rfl rfl ?_
 obtain ⟨x1,h2,h⟩:=bS h;refine s_op rfl rfl (qaV rfl rfl rfl rfl (zai (qdw h2)) ?_);obtain ⟨x3,h4,h⟩:=bS h;refine s_op rfl rfl (qaV rfl rfl rfl rfl (zai (qh9 h4)) ?_);refine sm rfl rfl ?_;refine sv rfl (qak rfl rfl) ?_;refine sv rfl (qak rfl rfl) ?_
 iterate 2 refine sm rfl rfl ?_
 refine qb7 ?_;refine bf hK ⟨[(7,slE eInt x3.1)],[]⟩ ?_;refine zaa rfl fun K hK=>mv rfl rfl (mv rfl rfl ?_);refine bf hK ⟨[(6,slE eInt x3.1)],[]⟩ ?_;obtain rfl:=oi h;exact AW.ret (qae (.inr rfl) (resT rfl rfl) rfl (qar fun _ _=>⟨trivial,trivial⟩))
theorem qfe {p0:qaa} {r:(List (Int))} (h:qbz p0=some r):Pure Tryz.prog 43 [gA p0] (· = slE eInt r):=by
 unfold qbz at h;refine zaj Tryz.func43 rfl rfl (lb rfl) fun hf=>?_;unfold Tryz.f43;dsimp only [qaL,Nat.reduceAdd];refine zaa rfl fun K hK=>b_op rfl (qbh rfl rfl rfl ?_);refine mv rfl rfl ?_;refine bf hK ⟨[(1,gF p0)],[]⟩ ?_;refine zaa rfl fun K hK=>bv rfl (qac qfl rfl) (bv rfl (qad ty3 rfl (qaj rfl rfl)) ?_);obtain ⟨h2,h⟩:=ifN h;refine b_op rfl (qjg (fid:=43) eInt (0:Int) 43007 rfl rfl ty36 rfl rfl ty3 rfl rfl h2 (fun v1=>?_));refine mv rfl rfl ?_;let E4:Nat × HV:=(3,.ar 43007 v1 eInt.k 0 ((List.replicate (p0.2.1).toNat (0:Int)).length));let O5:Nat × Nat × AObj:=(43007,v1,.arr eInt.k 3 (eInt.E (List.replicate (p0.2.1).toNat (0:Int))));refine bf hK ⟨[E4],[O5]⟩ ?_;refine zad ?_;refine zaa rfl fun K hK=>mv rfl rfl (bv rfl (qeS rfl rfl ty36 rfl rfl) (mv rfl rfl ?_));let E6:Nat × HV:=(9,hI (((List.replicate (p0.2.1).toNat (0:Int)).length:Nat):Int));refine bf hK ⟨[E4,E6,(10,hI 0)],[O5]⟩ ?_;refine AW.lpX h (by first | exact qa8 | exact qc3) (S:=Int × (List Int)) (V:=Unit) (fun a v=>⟨[(3,.ar 43007 v1 eInt.k 0 ((a.2).length)),E6,(10,hI a.1)],[(43007,v1,.arr eInt.k 3 (eInt.E a.2))]⟩) ?_ (X:=(List Int)) (W:=Unit) (fun a v=>⟨[(3,.ar 43007 v1 eInt.k 0 ((a).length))],[(43007,v1,.arr eInt.k 3 (eInt.E a))]⟩) (fun a9 w10 h=>?_) (fun a3 w4 st5 h=>?_)
 ·exact to_L ⟨(),rfl⟩
 ·refine zaa rfl fun K hK=>mv rfl rfl (mv rfl rfl ?_)
  refine bf hK ⟨[(2,.ar 43007 v1 eInt.k 0 ((a9).length))],[(43007,v1,.arr eInt.k 3 (eInt.E a9))]⟩ ?_;refine AW.to (qgP 2 [(43007,v1,.arr eInt.k 3 (eInt.E a9))] ⟨[(2,slE eInt a9)],[]⟩ ⟨⟨_,rfl,qci eInt (l:=a9) rfl fun _ _=>rfl⟩,trivial⟩ trivial ⟨rfl,trivial⟩ ⟨rfl,trivial⟩ ?_);obtain rfl:=oi h;exact AW.ret (qae (.inr rfl) (resT rfl rfl) rfl (qar fun _ _=>⟨trivial,trivial⟩))
 refine zaa rfl fun K hK=>bv rfl (qag rfl rfl qaF) ?_;let P3:ASf:=fun t H=>⟨(3,.ar 43007 v1 eInt.k 0 ((a3.2).length))::t,(43007,v1,.arr eInt.k 3 (eInt.E a3.2))::H⟩;refine bf hK (P3 [E6,(10,hI a3.1),(11,.bool (decide (a3.1<(((List.replicate (p0.2.1).toNat (0:Int)).length:Nat):Int))))] []) ?_;refine zak rfl (fun hc=>?_) (fun hc=>?_)
 ·obtain ⟨hc,h⟩:=cT hc h
  refine zac ?_;refine zad (zaf ?_);refine zaa rfl fun K hK=>mv rfl rfl (mv rfl rfl ?_);refine bf hK (P3 [(4,hI a3.1),E6,(10,hI a3.1)] []) ?_;refine zab rfl fun K hK=>mv rfl rfl (mv rfl rfl (mv rfl rfl ?_));obtain ⟨x7,h8,h⟩:=bS h;refine bv rfl (qgO ty36 es36 rfl rfl (qay h8) rfl) ?_;refine b_op rfl (qiL eInt (l:=a3.2) (j:=a3.1) (v:=a3.1) rfl rfl rfl ty3 rfl rfl rfl (qay h8) ?_);refine qmw hK (s':=⟨[(3,.ar 43007 v1 eInt.k 0 (((a3.2).set (a3.1).toNat a3.1).length)),E6,(10,hI a3.1)],[(43007,v1,.arr eInt.k 3 (eInt.E ((a3.2).set (a3.1).toNat a3.1)))]⟩) (zam ⟨arl (by first | rfl | simp only [List.length_set,qcS,qcq,List.length_reverse]),rfl,rfl,trivial⟩ ⟨rfl,trivial⟩) ?_;refine zab rfl fun K hK=>bv rfl (qag rfl rfl qaX) (mv rfl rfl ?_);refine qab (hK _ ?_);exact to_L ⟨(IntKind.wrap .i64 (a3.1+1),(a3.2).set (a3.1).toNat a3.1),(),h,rfl⟩
 obtain ⟨hc,h⟩:=cF hc h;refine AW.exit ?_;exact to_L ⟨a3.2,(),h,rfl⟩
theorem qh7 {p0:Int} {r:Bool} (h:qbR p0=some r):Pure Tryz.prog 70 [hI p0] (· = HV.bool r):=by
 unfold qbR at h;refine zaj Tryz.func70 rfl rfl (lb rfl) fun hf=>?_;unfold Tryz.f70;dsimp only [qaL,Nat.reduceAdd];refine zaa rfl fun K hK=>mv rfl rfl ?_;refine bf hK ⟨[(0,hI p0)],[]⟩ ?_;refine zag h (S:=Bool) (V:=Unit) (fun a v=>⟨[(2,.bool a)],[]⟩) (fun a1 w2 h=>?_) (fun k3 h=>?_)
 ·obtain rfl:=oi h
  exact AW.ret (qae (.inr rfl) (resT rfl rfl) rfl trivial)
 refine zab rfl fun K hK=>mv rfl rfl (bv rfl (qag rfl rfl qgL) (mv rfl rfl ?_));by_cases hg4:1≤p0
 ·have h:=ifT hg4 h
  refine b_T rfl rfl rfl rfl (decide_eq_true hg4) (qai rfl (qaE rfl rfl).2 ?_);refine b_T rfl rfl rfl rfl rfl (qai rfl (qag rfl rfl qnZ) ?_);refine bv rfl (qan rfl rfl rfl) (mv rfl rfl ?_);refine qab (hK _ ?_);exact to_L ⟨decide (p0≤16),(),h,rfl⟩
 have h:=ifF hg4 h;refine b_F rfl rfl rfl rfl rfl (decide_eq_false hg4) ?_;refine b_F rfl rfl rfl rfl rfl rfl ?_;refine bv rfl (qau rfl rfl rfl) (mv rfl rfl ?_);refine qab (hK _ ?_);exact to_L ⟨false,(),h,rfl⟩
theorem qeQ {p0:Int} {p1:List UInt8} {r:Int} (h:qbq p0 p1=some r):Pure Tryz.prog 44 [hI p0,.str p1] (· = hI r):=by
 unfold qbq at h;refine zaj Tryz.func44 rfl rfl (lb rfl) fun hf=>?_;unfold Tryz.f44;dsimp only [qaL,Nat.reduceAdd];refine zaa rfl fun K hK=>mv rfl rfl ?_;let P4:ASf:=fun t H=>⟨(0,hI p0)::(1,.str p1)::t,H⟩;refine bf hK (P4 [] []) ?_;refine zad (zaf ?_);refine zaa rfl fun K hK=>mv rfl rfl ?_;obtain ⟨x1,h2,h⟩:=bS h;refine b_op rfl (qat rfl rfl rfl rfl (zai (qh7 h2)) ?_);refine bv rfl (qdX rfl) (mv rfl rfl ?_);refine bf hK (P4 [(6,.bool (!x1))] []) ?_;refine zae rfl (fun hc=>?_) (fun hc=>?_)
 ·have h:=ifT hc h
  refine zaa rfl fun K hK=>mv rfl rfl ?_;refine bf hK ⟨[(4,hI 12)],[]⟩ ?_;obtain rfl:=oi h;exact AW.ret (qae (.inr rfl) (resT rfl rfl) rfl trivial)
 have h:=ifF (bF' hc) h;refine zaa rfl fun K hK=>mv rfl rfl (bv rfl (qcb rfl rfl ty9 rfl) (bv rfl (qag rfl rfl qbB) (mv rfl rfl ?_)));refine bf hK (P4 [(10,.bool (decide (65536<((p1).length:Int))))] []) ?_;refine zae rfl (fun hc=>?_) (fun hc=>?_)
 ·obtain ⟨hc,h⟩:=cT hc h
  refine zaa rfl fun K hK=>mv rfl rfl ?_;refine bf hK ⟨[(4,hI 4)],[]⟩ ?_;obtain rfl:=oi h;exact AW.ret (qae (.inr rfl) (resT rfl rfl) rfl trivial)
 obtain ⟨hc,h⟩:=cF hc h;refine zac ?_;refine zad ?_;refine zaa rfl fun K hK=>mv rfl rfl (bv rfl (qcb rfl rfl ty9 rfl) (mv rfl rfl ?_));let E7:Nat × HV:=(15,hI ((p1).length:Int));refine bf hK (P4 [E7,(16,hI 0)] []) ?_;refine AW.lpR h (by first | exact qa8 | exact qc3) (S:=Int) (V:=Unit) (fun a v=>(P4 [E7,(16,hI a)] [])) ?_ (X:=Unit) (W:=Unit) (fun a v=>⟨[],[]⟩) (fun a12 w13 h=>?_) (fun a3 w4 st5 h hr6=> ?_)
 ·exact to_L ⟨(),rfl⟩
 ·refine zaa rfl fun K hK=>mv rfl rfl ?_
  refine bf hK ⟨[(4,hI 0)],[]⟩ ?_;obtain rfl:=oi h;exact AW.ret (qae (.inr rfl) (resT rfl rfl) rfl trivial)
 refine zaa rfl fun K hK=>bv rfl (qag rfl rfl qaF) ?_;refine bf hK (P4 [E7,(16,hI a3),(17,.bool (decide (a3<((p1).length:Int))))] []) ?_;refine zak rfl (fun hc=>?_) (fun hc=>?_)
 ·obtain ⟨hc,h⟩:=cT hc h
  refine zac ?_;refine zad (zaf ?_);refine zaa rfl fun K hK=>mv rfl rfl (mv rfl rfl ?_);refine bf hK (P4 [(5,hI a3),E7,(16,hI a3)] []) ?_;refine zao 7 follows rfl rfl fun K hK=>?_;refine sm rfl rfl ?_;obtain ⟨h7,h⟩:=ifN h;refine sv rfl (qc2 ty9 rfl rfl rfl h7) ?_
  iterate 2 refine sm rfl rfl ?_
  obtain ⟨x8,h9,h⟩:=bS h;refine sv rfl (qen ty9 rfl rfl h9) ?_;obtain ⟨x10,h11,h⟩:=bS h;refine s_op rfl rfl (qaV rfl rfl rfl rfl (zai (qdw h11)) ?_);refine sv rfl (qag rfl rfl qaF) ?_;refine qb7 ?_;refine bf hK (P4 [E7,(16,hI a3),(25,.bool (decide (x10<0)))] []) ?_;refine zae rfl (fun hc=>?_) (fun hc=>?_)
  ·obtain ⟨hc,h⟩:=cT hc h
   refine zaa rfl fun K hK=>mv rfl rfl ?_;refine bf hK ⟨[(4,hI 13)],[]⟩ ?_;have h:=hr6 _ h;obtain rfl:=oi h;exact AW.ret (qae (.inr rfl) (resT rfl rfl) rfl trivial)
  obtain ⟨hc,h⟩:=cF hc h;refine zac ?_;refine zab rfl fun K hK=>bv rfl (qag rfl rfl qaX) (mv rfl rfl ?_);refine qab (hK _ ?_);exact to_L ⟨IntKind.wrap .i64 (a3+1),(),h,rfl⟩
 obtain ⟨hc,h⟩:=cF hc h;refine AW.exit ?_;exact to_L ⟨(),(),h,rfl⟩
theorem qfP {p0:qaa} {r:Int} (h:qbg p0=some r):Pure Tryz.prog 74 [gA p0] (· = hI r):=by
 unfold qbg at h;refine zaj Tryz.func74 rfl rfl (lb rfl) fun hf=>?_;unfold Tryz.f74;dsimp only [qaL,Nat.reduceAdd];refine zaa rfl fun K hK=>b_op rfl (qbh rfl rfl rfl ?_);refine mv rfl rfl ?_;refine bf hK ⟨[(1,gF p0)],[]⟩ ?_;refine zad (zaf ?_);refine zaa rfl fun K hK=>bv rfl (qad ty27 rfl (qao rfl (lb rfl) rfl)) ?_;obtain ⟨x1,h2,h⟩:=bS h;refine b_op rfl (qat rfl rfl rfl rfl (zai (qc0 h2)) ?_);refine bv rfl (qag rfl rfl qcv) (mv rfl rfl ?_);refine bf hK ⟨[(1,gF p0),(3,.bool (decide (x1≠0)))],[]⟩ ?_;refine zae rfl (fun hc=>?_) (fun hc=>?_)
 ·obtain ⟨hc,h⟩:=cT hc h
  refine zaa rfl fun K hK=>mv rfl rfl ?_;refine bf hK ⟨[(2,hI 1)],[]⟩ ?_;obtain rfl:=oi h;exact AW.ret (qae (.inr rfl) (resT rfl rfl) rfl trivial)
 obtain ⟨hc,h⟩:=cF hc h;refine zaa rfl fun K hK=>bv rfl (qac qij rfl) (bv rfl (qad ty3 rfl (qaj rfl rfl)) (bv rfl (qag rfl rfl qbB) (mv rfl rfl ?_)));refine bf hK ⟨[(7,.bool (decide (16<p0.1)))],[]⟩ ?_;refine zae rfl (fun hc=>?_) (fun hc=>?_)
 ·obtain ⟨hc,h⟩:=cT hc h
  refine zaa rfl fun K hK=>mv rfl rfl ?_;refine bf hK ⟨[(2,hI 12)],[]⟩ ?_;obtain rfl:=oi h;exact AW.ret (qae (.inr rfl) (resT rfl rfl) rfl trivial)
 obtain ⟨hc,h⟩:=cF hc h;refine zac ?_;refine zaa rfl fun K hK=>mv rfl rfl ?_;refine bf hK ⟨[(2,hI 0)],[]⟩ ?_;obtain rfl:=oi h;exact AW.ret (qae (.inr rfl) (resT rfl rfl) rfl trivial)
theorem qhK {p0:qaa} {p1:List UInt8} {r:Int} (h:qbA p0 p1=some r):Pure Tryz.prog 41 [gA p0,.str p1] (· = hI r):=by
 unfold qbA at h;refine zaj Tryz.func41 rfl rfl (lb rfl) fun hf=>?_;unfold Tryz.f41;dsimp only [qaL,Nat.reduceAdd];refine zaa rfl fun K hK=>b_op rfl (qbh rfl rfl rfl ?_);refine mv rfl rfl ?_;refine bf hK ⟨[(1,.str p1),(2,gF p0)],[]⟩ ?_;refine zad ?_;refine zaa rfl fun K hK=>bv rfl (qad ty27 rfl (qao rfl (lb rfl) rfl)) ?_;obtain ⟨x1,h2,h⟩:=bS h;refine b_op rfl (qat rfl rfl rfl rfl (zai (qfP h2)) ?_);refine mv rfl rfl ?_;refine bf hK ⟨[(1,.str p1),(2,gF p0),(5,hI x1)],[]⟩ ?_;refine zaa rfl fun K hK=>mv rfl rfl (bv rfl (qag rfl rfl qcv) ?_);refine bf hK ⟨[(1,.str p1),(2,gF p0),(5,hI x1),(9,.bool (decide (x1≠0)))],[]⟩ ?_;refine zae rfl (fun hc=>?_) (fun hc=>?_)
 ·obtain ⟨hc,h⟩:=cT hc h
  refine zaa rfl fun K hK=>mv rfl rfl (mv rfl rfl ?_);refine bf hK ⟨[(4,hI x1)],[]⟩ ?_;obtain rfl:=oi h;exact AW.ret (qae (.inr rfl) (resT rfl rfl) rfl trivial)
 obtain ⟨hc,h⟩:=cF hc h;refine zac ?_;refine zaa rfl fun K hK=>bv rfl (qac qij rfl) (bv rfl (qad ty3 rfl (qaj rfl rfl)) (mv rfl rfl ?_));obtain ⟨x3,h4,h⟩:=bS h;refine b_op rfl (qat rfl rfl rfl rfl (zai (qeQ h4)) ?_);refine mv rfl rfl ?_;refine bf hK ⟨[(4,hI x3)],[]⟩ ?_;obtain rfl:=oi h;exact AW.ret (qae (.inr rfl) (resT rfl rfl) rfl trivial)
end Go.AW

namespace Go.AW
open Go
abbrev qaw:=(List (List UInt8)) × (List (List UInt8))
def qaS (p0:List (List UInt8)) (p1:(List UInt8)→Option (Bool)):Option (Int) :=
 lpO (loopW (S:=Int) (X:=Ou (Unit) (Int)) (fun a1 =>
     if a1<((p0).length:Int) then
      (idx p0 a1).bind fun x5 =>
      (p1 x5).bind fun x7 =>
      if x7=true then
       some (Stp.exit (Ou.ret a1))
      else
       some (Stp.next (IntKind.wrap .i64 (a1+1)))
     else
      some (Stp.exit (Ou.go ()))) 0) (fun a9 =>
     some (-1)) some
def qas (p0:List (List UInt8)) (p1:(List UInt8)→Option (Bool)):Option (Bool) :=
 (qaS p0 p1).bind fun x1 =>
 some (decide (0≤x1))
def qcN (p0:List UInt8) (c0:List (List UInt8)):Option (Bool) :=
 (idx c0 0).bind fun x1 =>
 some (decide (((p0).length:Int)≠((x1).length:Int)))
def qb9 (p0:List (List UInt8)):Option (Bool) :=
 (qas p0 (fun b0=>qcN b0 p0)).bind fun x1 =>
 some x1
def qcE (p0:List UInt8):Option (Bool) :=
 (qb0 p0 [48]).bind fun x1 =>
 (qb0 p0 [49]).bind fun x3 =>
 some (decide ((IntKind.wrap .i64 (x1+x3))≠((p0).length:Int)))
def qbV (p0:List (List UInt8)):Option (Bool) :=
 (qas p0 (fun b0=>qcE b0 )).bind fun x1 =>
 some x1
def qbU (p0:List (List UInt8)):Option (Bool) :=
 lpO (loopW (S:=Int × (List (List UInt8 × Bool))) (X:=Ou (Unit) (Bool)) (fun a2 =>
     if a2.1<((p0).length:Int) then
      (idx p0 a2.1).bind fun x6 =>
      if ((qgd x6 a2.2).getD false)=true then
       some (Stp.exit (Ou.ret true))
      else
       some (Stp.next (IntKind.wrap .i64 (a2.1+1),qiw x6 true a2.2))
     else
      some (Stp.exit (Ou.go ()))) (0,([]:List (List UInt8 × Bool)))) (fun a8 =>
     some false) some
def qcL (p0 : qaw) : Option (Int) :=
 jp (fun (a1 : Bool) =>
   if a1=true then
    some 5
   else
    jp (fun (a4 : Bool) =>
      if a4=true then
       some 4
      else
       jp (fun (a7 : Bool) =>
         if a7=true then
          some 11
         else
          jp (fun (a10:Bool) =>
            if a10=true then
             some 2
            else
             jp (fun (a13:Bool) =>
               if a13=true then
                some 13
               else
                jp (fun (a16:Bool) =>
                  if a16=true then
                   some 7
                  else
                   some 0)
                  fun k18 =>
                 (qbU p0.1).bind fun x19 =>
                 if x19=true then
                  k18 true
                 else
                  (qbU p0.2).bind fun x21 =>
                  k18 x21)
               fun k15 =>
              (qbV p0.1).bind fun x24 =>
              if x24=true then
               k15 true
              else
               (qbV p0.2).bind fun x26 =>
               k15 x26)
            fun k12 =>
           (idx p0.1 0).bind fun x29 =>
           if ((x29).length:Int)<1 then
            k12 true
           else
            (idx p0.1 0).bind fun x31 =>
            if 16<((x31).length:Int) then
             k12 true
            else
             (idx p0.2 0).bind fun x33 =>
             k12 (decide (16<((x33).length:Int))))
         fun k9 =>
        (qb9 p0.1).bind fun x37 =>
        if x37=true then
         k9 true
        else
         (qb9 p0.2).bind fun x39 =>
         k9 x39)
      fun k6 =>
     if 256<((p0.1).length:Int) then
      k6 true
     else
      k6 (decide (256<((p0.2).length:Int))))
   fun k3 =>
  if ((p0.1).length:Int)=0 then
   k3 true
  else
   k3 (decide (((p0.2).length:Int)=0))
def qbW (p0:qaa) (p1:List UInt8):Option (Bool) :=
 (qa5 p0 p1).bind fun x1 =>
 jp (fun (a3:Bool) =>
   some a3)
   fun k5 =>
  if x1.2=0 then
   k5 x1.1
  else
   k5 false
def qc5 (p0:List UInt8) (c0:qaa):Option (Bool) :=
 (qbW c0 p0).bind fun x1 =>
 some (!x1)
def qct (p0:List UInt8) (c0:qaa) (c1:List UInt8) (c2:List UInt8):Option (Bool) :=
 if c1.length+p0.length≤maxLen then
  if (c1++p0).length+c2.length≤maxLen then
   (qbW c0 ((c1++p0)++c2)).bind fun x3 =>
   some x3
  else none
 else none
def qbf (p0:qaa) (p1:List (List UInt8)) (p2:List UInt8) (p3:List UInt8):Option (Bool) :=
 (qas p1 (fun b0=>qct b0 p0 p2 p3)).bind fun x1 =>
 some x1
def qcu (p0 : qaw) (p1:qaa):Option (Int) :=
 (qbE p1).bind fun x1 =>
 if x1≠0 then
  some 1
 else
  if p1.1≠2 then
   some 12
  else
   (qcL p0).bind fun x3 =>
   if x3≠0 then
    some x3
   else
    (qas p0.1 (fun b0=>qc5 b0 p1)).bind fun x5 =>
    if x5=true then
     some 13
    else
     lpO (loopW (S:=Int) (X:=Ou (Unit) (Int)) (fun a7 =>
         if a7 < ((p0.1).length:Int) then
          (idx p0.1 a7).bind fun x11 =>
          lpO (loopW (S:=Int) (X:=Ou (Unit) (Int)) (fun a13 =>
              if a13<((p0.1).length:Int) then
               (idx p0.1 a13).bind fun x17 =>
               (qbf p1 p0.2 x11 x17).bind fun x19 =>
               if (!x19)=true then
                some (Stp.exit (Ou.ret 15))
               else
                some (Stp.next (IntKind.wrap .i64 (a13+1)))
              else
               some (Stp.exit (Ou.go ()))) 0) (fun a21 =>
              some (Stp.next (IntKind.wrap .i64 (a7+1)))) (fun r=>some (Stp.exit (Ou.ret r)))
         else
          some (Stp.exit (Ou.go ()))) 0) (fun a23 =>
         some 0) some
def qa9 (p0:List (Int)) (p1:Int→Option (Bool)):Option (Int) :=
 lpO (loopW (S:=Int) (X:=Ou (Unit) (Int)) (fun a1 =>
     if a1<((p0).length:Int) then
      (idx p0 a1).bind fun x5 =>
      (p1 x5).bind fun x7 =>
      if x7=true then
       some (Stp.exit (Ou.ret a1))
      else
       some (Stp.next (IntKind.wrap .i64 (a1+1)))
     else
      some (Stp.exit (Ou.go ()))) 0) (fun a9 =>
     some (-1)) some
def qaQ (p0:List (Int)) (p1:Int→Option (Bool)):Option (Bool) :=
 (qa9 p0 p1).bind fun x1 =>
 some (decide (0≤x1))
def qcO (p0:Int) (c0:qaw):Option (Bool) :=
 jp (fun (a1:Bool) =>
   some a1)
   fun k3 =>
  if p0<0 then
   k3 true
  else
   k3 (decide (((c0.1).length:Int)≤p0))
def qcH (p0:qaw) (p1:qaa) (p2:List (Int)):Option (Int) :=
 (qcu p0 p1).bind fun x1 =>
 if x1≠0 then
  some 1
 else
  (qaQ p2 (fun b0=>qcO b0 p0)).bind fun x3 =>
  if x3=true then
   some 2
  else
   some 0
def qbK (p0:List UInt8):Option (Int × Int) :=
 (qbq 2 p0).bind fun x1 =>
 if x1≠0 then
  some (0,x1)
 else
  (qb0 p0 [49]).bind fun x3 =>
  some (IntKind.wrap .i64 ((IntKind.wrap .i64 (2*x3)) - ((p0).length:Int)),0)
def qbs (p0:List UInt8):Option (Int) :=
 (qbK p0).bind fun x1 =>
 some x1.1
def qbT (p0:qaa) (p1:List (Int)) (p2:List UInt8):Option ((List (Int))) :=
 (loopW (S:=(List Int) × Int) (X:=(List Int)) (fun a1 =>
     if a1.2<((p2).length:Int) then
      (idx p2 a1.2).bind fun x5 =>
      (qaH [48,49,50,51,52,53,54,55,56,57,97,98,99,100,101,102] (x5.toNat:Int)).bind fun x7 =>
      (qdE p0 a1.1 x7).bind fun x9 =>
      some (Stp.next (x9.1,IntKind.wrap .i64 (a1.2+1)))
     else
      some (Stp.exit a1.1)) (p1,0)).bind fun a11 =>
 some a11
def qca (p0 : qaw) (p1 : qaa) (p2:List (Int)):Option ((List UInt8) × Int) :=
 (qcH p0 p1 p2).bind fun x1 =>
 if x1≠0 then
  some (([]:List UInt8),x1)
 else
  if ((p2).length:Int)=0 then
   some (([]:List UInt8),0)
  else
   (idx p0.1 0).bind fun x3 =>
   (idx p0.2 0).bind fun x5 =>
   if (IntKind.wrap .i64 (((x3).length:Int)+((x5).length:Int)))≠0 then
    if (IntKind.wrap .i64 (Int.tdiv (IntKind.wrap .i64 (65536+((x5).length:Int))) (IntKind.wrap .i64 (((x3).length:Int)+((x5).length:Int)))))<((p2).length:Int) then
     some (([]:List UInt8),4)
    else
     if 0 ≤ (p1.2.1 : Int)∧(p1.2.1:Int)≤p1.2.1∧(p1.2.1:Int)*8≤281474976710656 then
      (loopW (S:=Int × (List Int)) (X:=(List Int)) (fun a11 =>
          if a11.1<(((List.replicate (p1.2.1).toNat (0:Int)).length:Nat):Int) then
           (idx a11.2 a11.1).bind fun x15 =>
           some (Stp.next (IntKind.wrap .i64 (a11.1+1),(a11.2).set (a11.1).toNat a11.1))
          else
           some (Stp.exit a11.2)) (0,List.replicate (p1.2.1).toNat (0:Int))).bind fun a17 =>
      (idx p2 0).bind fun x22 =>
      (idx p0.1 x22).bind fun x24 =>
      jp (fun (a26 : (List Int) × Int) =>
        if 0 ≤ (1 : Int) ∧ (1:Int)≤((p2).length:Int)∧((p2).length:Int)≤(p2.length:Int) then
         lpO (loopW (S := Int × (List Int) × (List UInt8) × Int) (X:=Ou ((List UInt8)) ((List UInt8) × Int)) (fun a30 =>
             if a30.1 < (((p2.take (((p2).length:Int)).toNat).drop (1:Int).toNat).length:Int) then
              (idx ((p2.take (((p2).length:Int)).toNat).drop (1:Int).toNat) a30.1).bind fun x34 =>
              jp (fun (a37:(List UInt8) × Bool) =>
                if (!a37.2)=true then
                 some (Stp.exit (Ou.ret (([]:List UInt8),13)))
                else
                 (idx p0.1 x34).bind fun x40 =>
                 if a37.1.length+x40.length≤maxLen then
                  jp (fun (a43:(List Int) × Int) =>
                    some (Stp.next (IntKind.wrap .i64 (a30.1+1),a43.1,a30.2.2.1++(a37.1++x40),a43.2)))
                    fun k45 =>
                   if fits 1 (a30.2.2.1.length+(a37.1++x40).length) then
                    (qbs (a37.1++x40)).bind fun x48 =>
                    (qbT p1 a30.2.1 (a37.1++x40)).bind fun x50 =>
                    k45 (x50,IntKind.wrap .i64 (a30.2.2.2+x48))
                   else none
                 else none)
                fun k39 =>
               (loopW (S := (List UInt8) × Int × Bool × Int) (X:=(List UInt8) × Bool) (fun a52 =>
                   if a52.2.2.2<((p0.2).length:Int) then
                    jp (fun (a56:(List UInt8) × Int × Bool) =>
                      some (Stp.next (a56.1,a56.2.1,a56.2.2,IntKind.wrap .i64 (a52.2.2.2+1))))
                      fun k58 =>
                     (idx p0.2 a52.2.2.2).bind fun x59 =>
                     jp (fun (a61:Int × Bool) =>
                       jp (fun (a64:Bool) =>
                         if a64=true then
                          k58 (x59,a61.1,true)
                         else
                          k58 (a52.1,a52.2.1,a52.2.2.1))
                         fun k66 =>
                        if a61.2=true then
                         if (!a52.2.2.1)=true then
                          k66 true
                         else
                          k66 (decide (a61.1<a52.2.1))
                        else
                         k66 false)
                       fun k63 =>
                      (idx p0.1 x34).bind fun x69 =>
                      if x59.length+x69.length≤maxLen then
                       (qbs (x59++x69)).bind fun x72 =>
                       (idx p0.1 x34).bind fun x74 =>
                       if x59.length+x74.length≤maxLen then
                        (qbT p1 a30.2.1 (x59++x74)).bind fun x77 =>
                        k63 (max (IntKind.wrap .i64 (a30.2.2.2+x72)) (IntKind.wrap .i64 (0 - (IntKind.wrap .i64 (a30.2.2.2+x72)))),decide (0<((x77).length:Int)))
                       else none
                      else none
                   else
                    some (Stp.exit (a52.1,a52.2.2.1))) (([]:List UInt8),0,false,0)).bind fun a79 =>
               k39 (a79.1,a79.2)
             else
              some (Stp.exit (Ou.go a30.2.2.1))) (0,a26.1,([]:List UInt8)++x24,a26.2)) (fun a81 =>
             some (a81,0)) some
        else none)
        fun k28 =>
       if fits 1 (([]:List UInt8).length+x24.length) then
        (qbs x24).bind fun x86 =>
        (qbT p1 a17 x24).bind fun x88 =>
        k28 (x88,IntKind.wrap .i64 (0+x86))
       else none
     else none
   else none
def qeA (p0 : Int) (p1:Int):Option ((List (List UInt8)) × Int) :=
 (qbR p0).bind fun x1 =>
 if (!x1)=true then
  some ([],12)
 else
  if p1<0 then
   some ([],2)
  else
   if 65536<p1 then
    some ([],4)
   else
    if p0=1 then
     (qds [48] p1).bind fun x3 =>
     some ([x3],0)
    else
     lpO (loopW (S := (List (List UInt8)) × Int) (X:=Ou ((List (List UInt8))) ((List (List UInt8)) × Int)) (fun a5 =>
       if a5.2 < p1 then
        if 4096<(IntKind.wrap .i64 (((a5.1).length:Int)*p0)) then
         some (Stp.exit (Ou.ret ([],4)))
        else
         if 0 ≤ (0 : Int)∧(0:Int)≤IntKind.wrap .i64 (((a5.1).length:Int)*p0)∧(IntKind.wrap .i64 (((a5.1).length:Int)*p0):Int)*16≤281474976710656 then
          (loopW (S:=Int × (List (List UInt8))) (X:=(List (List UInt8))) (fun a11 =>
            if a11.1<((a5.1).length:Int) then
             (idx a5.1 a11.1).bind fun x15 =>
             (loopW (S:=Int × (List (List UInt8))) (X:=(List (List UInt8))) (fun a17 =>
               if a17.1<p0 then
                if 0≤(a17.1:Int)∧(a17.1:Int)≤IntKind.wrap .i64 (a17.1+1)∧IntKind.wrap .i64 (a17.1+1)≤(([48,49,50,51,52,53,54,55,56,57,97,98,99,100,101,102]:List UInt8).length:Int) then
                 if x15.length+((([48,49,50,51,52,53,54,55,56,57,97,98,99,100,101,102]:List UInt8).take (IntKind.wrap .i64 (a17.1+1)).toNat).drop (a17.1).toNat).length≤maxLen then
                  if fits 16 ((a17.2:List (List UInt8)).length+([x15++((([48,49,50,51,52,53,54,55,56,57,97,98,99,100,101,102]:List UInt8).take (IntKind.wrap .i64 (a17.1+1)).toNat).drop (a17.1).toNat)]).length) then
                   some (Stp.next (IntKind.wrap .i64 (a17.1+1),a17.2++[x15++((([48,49,50,51,52,53,54,55,56,57,97,98,99,100,101,102]:List UInt8).take (IntKind.wrap .i64 (a17.1+1)).toNat).drop (a17.1).toNat)]))
                  else none
                 else none
                else none
               else
                some (Stp.exit a17.2)) (0,a11.2)).bind fun a25 =>
             some (Stp.next (IntKind.wrap .i64 (a11.1+1),a25))
            else
             some (Stp.exit a11.2)) (0,List.replicate (0:Int).toNat (([]:List UInt8):List UInt8))).bind fun a27 =>
          some (Stp.next (a27,IntKind.wrap .i64 (a5.2+1)))
         else none
       else
        some (Stp.exit (Ou.go a5.1))) ([([]:List UInt8)],0)) (fun a29 =>
       some (a29,0)) some
def qaA (p0:List (List UInt8)) (p1:List UInt8):Option (Int) :=
 lpO (loopW (S:=Int) (X:=Ou (Unit) (Int)) (fun a1 =>
   if a1<((p0).length:Int) then
    (idx p0 a1).bind fun x5 =>
    if p1=x5 then
     some (Stp.exit (Ou.ret a1))
    else
     some (Stp.next (IntKind.wrap .i64 (a1+1)))
   else
    some (Stp.exit (Ou.go ()))) 0) (fun a7 =>
   some (-1)) some
def qaz (p0:List (List UInt8)) (p1:List UInt8):Option (Bool) :=
 (qaA p0 p1).bind fun x1 =>
 some (decide (0≤x1))
def qes (p0:Int):Option (Int) :=
 lpO (loopW (S:=Int) (X:=Ou (Unit) (Int)) (fun a1 =>
   if a1<16 then
    (idx ([48,49,50,51,52,53,54,55,56,57,97,98,99,100,101,102]:List UInt8) a1).bind fun x5 =>
    if (x5.toNat:Int)=p0 then
     some (Stp.exit (Ou.ret a1))
    else
     some (Stp.next (IntKind.wrap .i64 (a1+1)))
   else
    some (Stp.exit (Ou.go ()))) 0) (fun a7 =>
   some (-1)) some
def qfy (p0:Int) (p1:List UInt8):Option (Int) :=
 jp (fun (a1:Bool) =>
  if a1=true then
   some 12
  else
   if 65536<((p1).length:Int) then
    some 4
   else
    lpO (loopW (S:=Int) (X:=Ou (Unit) (Int)) (fun a4 =>
      if a4<((p1).length:Int) then
       (idx p1 a4).bind fun x8 =>
       (qes (x8.toNat:Int)).bind fun x10 =>
       jp (fun (a12:Bool) =>
        if a12=true then
         some (Stp.exit (Ou.ret 13))
        else
         some (Stp.next (IntKind.wrap .i64 (a4+1))))
        fun k14 =>
        if x10<0 then
         k14 true
        else
         k14 (decide (p0≤x10))
      else
       some (Stp.exit (Ou.go ()))) 0) (fun a16 =>
      some 0) some)
  fun k3 =>
  if p0<1 then
   k3 true
  else
   k3 (decide (16<p0))
def qd0 (p0:qaa) (p1:List UInt8):Option (Int) :=
 (qc4 p0).bind fun x1 =>
 if x1≠0 then
  some x1
 else
  (qfy p0.1 p1).bind fun x3 =>
  some x3
def qge (p0:qaa) (p1:List (Int)) (p2:List UInt8):Option ((List (Int))) :=
 (loopW (S:=(List Int) × Int) (X:=(List Int)) (fun a1 =>
   if a1.2<((p2).length:Int) then
    (idx p2 a1.2).bind fun x5 =>
    (qes (x5.toNat:Int)).bind fun x7 =>
    (qeW p0 a1.1 x7).bind fun x9 =>
    some (Stp.next (x9,IntKind.wrap .i64 (a1.2+1)))
   else
    some (Stp.exit a1.1)) (p1,0)).bind fun a11 =>
 some a11
def qdP (p0:qaa) (p1:List UInt8):Option (Bool × Int) :=
 (qd0 p0 p1).bind fun x1 =>
 if x1≠0 then
  some (false,x1)
 else
  (qfw p0).bind fun x3 =>
  (qge p0 x3 p1).bind fun x5 =>
  some (decide (0<((x5).length:Int)),0)
def qgf (p0:qaw) (p1:List (Int)):Option ((List (Int))) :=
 if 0 ≤ (0:Int)∧(0:Int)≤min ((p1).length:Int) 8∧min ((p1).length:Int) 8≤(p1.length:Int) then
  (loopW (S:=Int × (List Int)) (X:=(List Int)) (fun a2 =>
      if a2.1<(((p1.take (min ((p1).length:Int) 8).toNat).drop (0:Int).toNat).length:Int) then
       (idx ((p1.take (min ((p1).length:Int) 8).toNat).drop (0:Int).toNat) a2.1).bind fun x6 =>
       if ((p0.1).length:Int)≠0 then
        if fits 8 ((a2.2:List Int).length+([Int.tmod (IntKind.wrap .i64 x6) ((p0.1).length:Int)]).length) then
         some (Stp.next (IntKind.wrap .i64 (a2.1+1),a2.2++[Int.tmod (IntKind.wrap .i64 x6) ((p0.1).length:Int)]))
        else none
       else none
      else
       some (Stp.exit a2.2)) (0,([]:List Int))).bind fun a12 =>
  some a12
 else none
def qbu (p0:List UInt8) (p1:List UInt8):Option (Bool) :=
 jp (fun (a1:Bool) =>
   some a1)
   fun k3 =>
  if ((p1).length:Int)≤((p0).length:Int) then
   if 0≤(0:Int)∧(0:Int)≤((p1).length:Int)∧((p1).length:Int)≤(p0.length:Int) then
    k3 (decide (((p0.take (((p1).length:Int)).toNat).drop (0:Int).toNat)=p1))
   else none
  else
   k3 false
def qeG (p0:List UInt8) (p1:List UInt8):Option (Bool) :=
 (qbu p0 p1).bind fun x1 =>
 some x1
def qeH (p0:qaa) (p1:List UInt8):Option (Bool) :=
 (qdP p0 p1).bind fun x1 =>
 some x1.1
def qbS (p0:List (List UInt8)) (p1:qaa) (p2:List UInt8) (p3:List UInt8):Option (Bool) :=
 lpO (loopW (S:=Int) (X:=Ou (Unit) (Bool)) (fun a1 =>
     if a1<((p0).length:Int) then
      (idx p0 a1).bind fun x5 =>
      if p2.length+x5.length≤maxLen then
       if (p2++x5).length+p3.length≤maxLen then
        (qeH p1 ((p2++x5)++p3)).bind fun x9 =>
        if x9=true then
         some (Stp.exit (Ou.ret true))
        else
         some (Stp.next (IntKind.wrap .i64 (a1+1)))
       else none
      else none
     else
      some (Stp.exit (Ou.go ()))) 0) (fun a11 =>
     some false) some
def qcI (p0 : qaw) (p1:List UInt8):Option ((List (Int)) × Int) :=
 (qcL p0).bind fun x1 =>
 if x1≠0 then
  some ([],1)
 else
  if p1=([]:List UInt8) then
   some ([],0)
  else
   (idx p0.1 0).bind fun x3 =>
   (idx p0.2 0).bind fun x5 =>
   if (IntKind.wrap .i64 (((x3).length:Int)+((x5).length:Int)))≠0 then
    if (Int.tmod (IntKind.wrap .i64 (((p1).length:Int)+((x5).length:Int))) (IntKind.wrap .i64 (((x3).length:Int)+((x5).length:Int))))≠0 then
     some ([],11)
    else
     lpO (loopW (S:=(List UInt8) × (List Int)) (X:=Ou ((List Int)) ((List (Int)) × Int)) (fun a8 =>
         if a8.1≠([]:List UInt8) then
          jp (fun (a12:(List UInt8)) =>
            if 0≤(0:Int)∧(0:Int)≤((x3).length:Int)∧((x3).length:Int)≤(a12.length:Int) then
             (qaA p0.1 ((a12.take (((x3).length:Int)).toNat).drop (0:Int).toNat)).bind fun x16 =>
             if x16<0 then
              some (Stp.exit (Ou.ret ([],13)))
             else
              if fits 8 ((a8.2:List Int).length+([x16]).length) then
               if 0≤(((x3).length:Int):Int)∧(((x3).length:Int):Int)≤((a12).length:Int)∧((a12).length:Int)≤(a12.length:Int) then
                some (Stp.next ((a12.take (((a12).length:Int)).toNat).drop (((x3).length:Int)).toNat,a8.2++[x16]))
               else none
              else none
            else none)
            fun k14 =>
           if 0<(((a8.2).length:Nat):Int) then
            if 0≤(0:Int)∧(0:Int)≤((x5).length:Int)∧((x5).length:Int)≤(a8.1.length:Int) then
             (qaz p0.2 ((a8.1.take (((x5).length:Int)).toNat).drop (0:Int).toNat)).bind fun x20 =>
             if (!x20)=true then
              some (Stp.exit (Ou.ret ([],13)))
             else
              if 0≤(((x5).length:Int):Int)∧(((x5).length:Int):Int)≤((a8.1).length:Int)∧((a8.1).length:Int)≤(a8.1.length:Int) then
               k14 ((a8.1.take (((a8.1).length:Int)).toNat).drop (((x5).length:Int)).toNat)
              else none
            else none
           else
            k14 a8.1
         else
          some (Stp.exit (Ou.go a8.2))) (p1,([]:List Int))) (fun a24 =>
         some (a24,0)) some
   else none
abbrev qbF:=Int × (List (List UInt8))
abbrev qkY:=qbF × (Nat × Nat)
abbrev qah:=(List UInt8) × (List UInt8)
abbrev qlM (x:qah):List HV:=[HV.str x.1,HV.str x.2]
abbrev eFirstSecond:EncL qah:=encF 2 qlM (fun _=>rfl)
def qbN (p0:qbF) (p1:List UInt8) (p2:Int):Option ((List (List UInt8))) :=
 if p1≠([]:List UInt8) then
  (idx p1 0).bind fun x1 =>
  if (x1.toNat:Int)≠p2 then
   some []
  else
   if 0≤(1:Int)∧(1:Int)≤((p1).length:Int)∧((p1).length:Int)≤(p1.length:Int) then
    some [(p1.take (((p1).length:Int)).toNat).drop (1:Int).toNat]
   else none
 else
  (loopW (S:=Int × (List (List UInt8))) (X:=(List (List UInt8))) (fun a4 =>
      if a4.1<((p0.2).length:Int) then
       jp (fun (a8:(List (List UInt8))) =>
         some (Stp.next (IntKind.wrap .i64 (a4.1+1),a8)))
         fun k10 =>
        (idx p0.2 a4.1).bind fun x11 =>
        (idx x11 0).bind fun x13 =>
        if (x13.toNat:Int)=p2 then
         if 0≤(1:Int)∧(1:Int)≤((x11).length:Int)∧((x11).length:Int)≤(x11.length:Int) then
          if fits 16 ((a4.2:List (List UInt8)).length+([(x11.take (((x11).length:Int)).toNat).drop (1:Int).toNat]).length) then
           k10 (a4.2++[(x11.take (((x11).length:Int)).toNat).drop (1:Int).toNat])
          else none
         else none
        else
         k10 a4.2
      else
       some (Stp.exit a4.2)) (0,([]:List (List UInt8)))).bind fun a19 =>
  some a19
def qaU (p0 : qkY) (p1:qah) (p2:Int):Option ((List (qah))) :=
 (qbN (p0.1.1,p0.1.2) p1.1 p2).bind fun x1 =>
 (loopW (S := Int × (List qah)) (X:=(List qah)) (fun a3 =>
     if a3.1<((x1).length:Int) then
      (idx x1 a3.1).bind fun x7 =>
      (qbN (p0.1.1,p0.1.2) p1.2 p2).bind fun x9 =>
      (loopW (S:=Int × (List qah)) (X:=(List qah)) (fun a11 =>
          if a11.1<((x9).length:Int) then
           (idx x9 a11.1).bind fun x15 =>
           if fits 32 ((a11.2:List qah).length+([(x7,x15)]).length) then
            some (Stp.next (IntKind.wrap .i64 (a11.1+1),a11.2++[(x7,x15)]))
           else none
          else
           some (Stp.exit a11.2)) (0,a3.2)).bind fun a19 =>
      some (Stp.next (IntKind.wrap .i64 (a3.1+1),a19))
     else
      some (Stp.exit a3.2)) (0,([]:List qah))).bind fun a22 =>
 some a22
theorem SR.frzH {w:World} {μ:Mu} {H D H':Heap} (n:Nat) (h:SR w μ H) (hD:∀ id x,hget D id=some x→hget H id=some x∧hget H' id=none)
  (hs:∀ id ver o,hget H' id=some (ver,o)→hget H id=some (ver,o)∨∃ k e cs,hget H id=some (ver,.arr k e cs)∧o=.arr k e (cs.map (frz n D))):SR w (μ.cut H') H' where
 ok:=fun id ver b hb=>h.ok id ver b (zan hb)
 has:=fun id ver o ho=>by
  rcases hs id ver o ho with h1 | ⟨k,e,cs,h1,rfl⟩
  ·obtain ⟨l,hl,hor⟩:=h.has id ver o h1
   exact ⟨l,by simp [Mu.cut,ho,hl],hor.evo (Evo.cut w μ H') h.ok (fun _ _=>rfl) (fun _ _ _ _ _ _ _ _=>rfl)⟩
  obtain ⟨l,hl,hor⟩:=h.has id ver _ h1;refine ⟨l,by simp [Mu.cut,ho,hl],?_⟩
  cases l with
  | none =>
   have:cs=[]:=hor;subst this;exact (rfl:([]:List HV).map (frz n D)=[])
  | some b =>
   obtain ⟨h0,cur,vs,rest,hrow,hcl,hrl⟩:=hor;exact ⟨qiK h0,cur,vs,rest,hrow,hcl,zaw (fun c x _=>qfE h hD n c x) hrl⟩
 only:=fun id x hx=>by
  simp only [Mu.cut] at hx;split at hx
  ·rename_i hi; exact Option.isSome_iff_exists.1 hi
  cases hx
 inj:=fun i j v u b hi hj=>h.inj i j v u b (zan hi) (zan hj)
 held:=fun b hb=>⟨(h.held b hb).1,fun ⟨id,ver,hl⟩=>(h.held b hb).2 ⟨id,ver,zan hl⟩⟩
def leO (n:Nat) (D:Heap) (l:Heap):Heap→Prop
 | []=>True
 | (i,v,o)::l'=>(hget l i=some (v,o)∨∃ k e cs,hget l i=some (v,.arr k e cs)∧o=.arr k e (cs.map (frz n D)))∧leO n D l l'
theorem qoS {n:Nat} {D l:Heap}:∀ {l':Heap},leO n D l l'→∀ t v o,hget l' t=some (v,o)→hget l t=some (v,o)∨∃ k e cs,hget l t=some (v,.arr k e cs)∧o=.arr k e (cs.map (frz n D))
 | [],_,_,_,_,h=>by cases h
 | (i,g,u)::l',h,t,v,o,ht=>by
  simp only [hget] at ht;split at ht
  ·rename_i e; subst e; cases ht; exact h.1
  exact qoS h.2 t v o ht
theorem qoi {s:AS} {G:AS→Prop} (n:Nat) (D:Heap) (s':AS) (h1:leF n D s.slots s'.slots) (h2:leO n D s.heap s'.heap) (h3:leH s.heap D) (h4:qp3 s'.heap D) (h:G s'):s.to G:=by
 intro ro N B μ a w hs;have hD:∀ id x,hget D id=some x→hget s.heap id=some x∧hget s'.heap id=none:=fun id x hx=>⟨qcF h3 id x hx,qji h4 id x hx⟩;refine ⟨μ.cut s'.heap,s',h,⟨hs.size,hs.sr.frzH n hD (qoS h2),fun t hv ht=>?_,hs.marks.evo (Evo.cut w μ s'.heap),hs.ro.evo (Evo.cut w μ s'.heap)⟩,Evo.cut w μ s'.heap⟩;obtain ⟨g,hg,rfl⟩:=qkN h1 t hv ht;exact ⟨(hs.slot t g hg).1,qfE hs.sr hD n g _ (hs.slot t g hg).2⟩
theorem LeL.ones:∀ {aa bs:List HV} (_:LeL aa bs),ones aa→ones bs
 | _,_,.nil,h=>h
 | _,_,.cons h h',h0=>fun c hc=>by
  rcases List.mem_cons.1 hc with rfl | hc
  ·have:=h0 _ (List.mem_cons_self ..)
   cases h with
   | refl=>exact this
   | nil=>rfl
   | empty=>rfl
  exact LeL.ones h' (fun d hd=>h0 d (List.mem_cons_of_mem _ hd)) c hc
theorem qfq {s:AS} {G:AS→Prop} (id ver:Nat) {k:Nat} {e:TypeId} {cs ds:List HV} (hg:hget s.heap id=some (ver,.arr k e cs)) (hl:LeL cs ds) (h:G ⟨s.slots,(id,ver,.arr k e ds)::s.heap⟩):s.to G:=by
 intro ro N B μ a w hs
 have h1:=hs.sr.reobj (o':=.arr k e ds) hg fun l _ hor=>by
  cases l with
  | none =>
   have:cs=[]:=hor;subst this;cases hl;exact hor
  | some b =>
   obtain ⟨h0,cur,vs,rest,hrow,hcl,hrl⟩:=hor;exact ⟨hl.ones h0,cur,vs,rest,hrow,hcl,hl.rep hrl⟩
 refine ⟨μ,_,h,⟨hs.size,h1.le fun j x=>?_,hs.slot,hs.marks,hs.ro⟩,Evo.refl w μ⟩;simp only [hget,qap]
section
variable {P:Program} {ro:Option Nat} {N:Nat} {all:Array Oper} {s:AS} {rest:List Oper} {o:Oper} {K:AS→Prop} {fid:Nat} {sl:List (Nat × HV)} {H:Heap}
theorem AOps.to {is:List Nat} (h:s.to (AOps P ro N all is K)):AOps P ro N all is K s:=fun w0 μ0 μ a w Q hs hE hK=>by
 obtain ⟨μ1,t,ht,hs1,E1⟩:=h ro N w0.heap.size μ a w hs;exact ht w0 μ0 μ1 a w Q hs1 (hE.trans E1) hK
theorem b_to {l:List Oper} (h:s.to (bops P ro N all l K)):bops P ro N all l K s:=fun hok i hi=>AOps.to (qek h fun t ht=>ht hok i hi)
end
open Go.Proofs
set_option maxHeartbeats 1600000
set_option maxRecDepth 100000
theorem qcA {p0:qbF} {p1:List UInt8} {p2:Int} {r:(List (List UInt8))} (h:qbN p0 p1 p2=some r):Pure Tryz.prog 90 [.agg [hI p0.1,slE eStr p0.2],.str p1,.int .u8 p2] (· = slE eStr r):=by
 unfold qbN at h;refine zaj Tryz.func90 rfl rfl (lb rfl) fun hf=>?_;unfold Tryz.f90;dsimp only [qaL,Nat.reduceAdd];refine zaa rfl fun K hK=>b_op rfl (qbh rfl rfl rfl ?_);refine mv rfl rfl ?_;let E1:Nat × HV:=(3,.fptr [hI p0.1,slE eStr p0.2] 0);refine bf hK ⟨[(1,.str p1),(2,.int .u8 p2),E1],[]⟩ ?_;refine zad ?_;refine zaa rfl fun K hK=>mv rfl rfl (bv rfl (qag rfl rfl qpi) ?_);refine bf hK ⟨[(1,.str p1),(2,.int .u8 p2),E1,(11,.bool (decide (p1≠nS)))],[]⟩ ?_;refine zae rfl (fun hc=>?_) (fun hc=>?_)
 ·obtain ⟨hc,h⟩:=cT hc h
  refine zad ?_;refine zaa rfl fun K hK=>mv rfl rfl ?_;obtain ⟨x1,h2,h⟩:=bS h;refine bv rfl (qen ty9 rfl rfl h2) (mv rfl rfl (bv rfl (qag rfl rfl qcv) ?_));refine bf hK ⟨[(1,.str p1),(15,.bool (decide ((x1.toNat:Int)≠p2)))],[]⟩ ?_;refine zae rfl (fun hc=>?_) (fun hc=>?_)
  ·obtain ⟨hc,h⟩:=cT hc h
   refine zaa rfl fun K hK=>mv rfl rfl ?_;refine bf hK ⟨[(6,.v (.slice none 0 0))],[]⟩ ?_;refine AW.to (qcR ⟨[(6,slE eStr ([]:List (List UInt8)))],[]⟩ ⟨⟨_,rfl,.nil _⟩,trivial⟩ trivial ?_);obtain rfl:=oi h;exact AW.ret (qae (.inr rfl) (resT rfl rfl) rfl (qar fun _ _=>⟨trivial,trivial⟩))
  obtain ⟨hc,h⟩:=cF hc h;refine zac ?_;refine zaa rfl fun K hK=>mv rfl rfl ?_;obtain ⟨h3,h⟩:=ifN h;refine bv rfl (qc2 ty9 rfl rfl rfl h3) ?_;refine b_op rfl (qdx rfl rfl (qdp (cs:=[.str ((p1.take (((p1).length:Int)).toNat).drop (1:Int).toNat)]) ty22 ty9 rfl rfl rfl rfl rfl) ?_);refine mv rfl rfl ?_;refine bf hK ⟨[(6,slE eStr [(p1.take (((p1).length:Int)).toNat).drop (1:Int).toNat])],[]⟩ ?_;obtain rfl:=oi h;exact AW.ret (qae (.inr rfl) (resT rfl rfl) rfl (qar fun _ _=>⟨trivial,trivial⟩))
 obtain ⟨hc,h⟩:=cF hc h;refine zac ?_;refine zaa rfl fun K hK=>mv rfl rfl ?_;let P1:ASf:=fun t H=>⟨(2,.int .u8 p2)::t,H⟩;refine bf hK (P1 [E1,(7,.v (.slice none 0 0))] []) ?_;refine zad ?_;refine zaa rfl fun K hK=>bv rfl (qac qgj rfl) (bv rfl (qad ty22 rfl (qaj rfl rfl)) (bv rfl (qav rfl rfl ty22 rfl) (mv rfl rfl ?_)));let E2:Nat × HV:=(21,hI ((p0.2).length:Int));refine bf hK (P1 [(7,.v (.slice none 0 0)),(20,slE eStr p0.2),E2,(22,hI 0)] []) ?_;refine AW.lpX h (by first | exact qa8 | exact qc3) (S:=Int × (List (List UInt8))) (V:=Nat) (fun a v=>(P1 [(7,.ar 90034 v eStr.k 0 ((a.2).length)),(20,slE eStr p0.2),E2,(22,hI a.1)] [(90034,v,.arr eStr.k 9 (eStr.E a.2))])) ?_ (X:=(List (List UInt8))) (W:=Nat) (fun a v=>⟨[(7,.ar 90034 v eStr.k 0 ((a).length))],[(90034,v,.arr eStr.k 9 (eStr.E a))]⟩) (fun a19 w20 h=>?_) (fun a4 w5 st6 h=>?_)
 ·refine qeE (qha 90034 7 eStr.k 9 rfl fun v18=>?_)
  exact qaZ (s':=(P1 [(7,.ar 90034 v18 eStr.k 0 ((([]:List (List UInt8))).length)),(20,slE eStr p0.2),E2,(22,hI 0)] [(90034,v18,.arr eStr.k 9 (eStr.E ([]:List (List UInt8))))])) (zam ⟨rfl,arl (by first | rfl | simp only [List.length_set,qcS,qcq,List.length_reverse]),rfl,rfl,rfl,trivial⟩ ⟨rfl,trivial⟩) ⟨v18,rfl⟩
 ·refine zaa rfl fun K hK=>mv rfl rfl (mv rfl rfl ?_)
  refine bf hK ⟨[(6,.ar 90034 w20 eStr.k 0 ((a19).length))],[(90034,w20,.arr eStr.k 9 (eStr.E a19))]⟩ ?_;refine AW.to (qgP 2 [(90034,w20,.arr eStr.k 9 (eStr.E a19))] ⟨[(6,slE eStr a19)],[]⟩ ⟨⟨_,rfl,qci eStr (l:=a19) rfl fun _ _=>rfl⟩,trivial⟩ trivial ⟨rfl,trivial⟩ ⟨rfl,trivial⟩ ?_);obtain rfl:=oi h;exact AW.ret (qae (.inr rfl) (resT rfl rfl) rfl (qar fun _ _=>⟨trivial,trivial⟩))
 refine zaa rfl fun K hK=>bv rfl (qag rfl rfl qaF) ?_;let E3:Nat × HV:=(7,.ar 90034 w5 eStr.k 0 ((a4.2).length));let O4:Nat × Nat × AObj:=(90034,w5,.arr eStr.k 9 (eStr.E a4.2));refine bf hK (P1 [E3,(20,slE eStr p0.2),E2,(22,hI a4.1),(23,.bool (decide (a4.1<((p0.2).length:Int))))] [O4]) ?_;refine zak rfl (fun hc=>?_) (fun hc=>?_)
 ·obtain ⟨hc,h⟩:=cT hc h
  refine zac ?_;refine zag h (S:=(List (List UInt8))) (V:=Nat) (fun a v=>(P1 [(7,.ar 90034 v eStr.k 0 ((a).length)),(20,slE eStr p0.2),E2,(22,hI a4.1)] [(90034,v,.arr eStr.k 9 (eStr.E a))])) (fun a8 w9 h=>?_) (fun k10 h=>?_)
  ·refine zab rfl fun K hK=>bv rfl (qag rfl rfl qaX) (mv rfl rfl ?_)
   refine qab (hK _ ?_);exact to_L ⟨(IntKind.wrap .i64 (a4.1+1),a8),w9,h,rfl⟩
  refine zaf ?_;refine zaa rfl fun K hK=>?_;obtain ⟨x11,h12,h⟩:=bS h;refine bv rfl (qaI ty22 es22 rfl rfl (qay h12)) (bv rfl (qad ty9 rfl (qaW eStr h12 (o:=0) rfl rfl)) (mv rfl rfl ?_));refine bf hK (P1 [E3,(9,.str x11),(20,slE eStr p0.2),E2,(22,hI a4.1)] [O4]) ?_;refine zaa rfl fun K hK=>mv rfl rfl ?_;obtain ⟨x13,h14,h⟩:=bS h;refine bv rfl (qen ty9 rfl rfl h14) (mv rfl rfl (bv rfl (qag rfl rfl qdT) ?_));refine bf hK (P1 [E3,(9,.str x11),(20,slE eStr p0.2),E2,(22,hI a4.1),(29,.bool (decide ((x13.toNat:Int)=p2)))] [O4]) ?_;refine zae rfl (fun hc=>?_) (fun hc=>?_)
  ·obtain ⟨hc,h⟩:=cT hc h
   refine zab rfl fun K hK=>mv rfl rfl (mv rfl rfl ?_);obtain ⟨h15,h⟩:=ifN h;refine bv rfl (qc2 ty9 rfl rfl rfl h15) ?_;refine b_op rfl (qdx rfl rfl (qdp (cs:=[.str ((x11.take (((x11).length:Int)).toNat).drop (1:Int).toNat)]) ty22 ty9 rfl rfl rfl rfl rfl) ?_);obtain ⟨h17,h⟩:=ifN h;refine b_op rfl (qeF eStr (l:=a4.2) (m:=[(x11.take (((x11).length:Int)).toNat).drop (1:Int).toNat]) rfl rfl ty22 ty22 ty9 rfl rfl rfl rfl rfl h17 (fun v16=>?_));refine mv rfl rfl ?_;refine qab (hK _ ?_);exact to_L ⟨a4.2++[(x11.take (((x11).length:Int)).toNat).drop (1:Int).toNat],v16,h,rfl⟩
  obtain ⟨hc,h⟩:=cF hc h;refine zac ?_;exact to_L ⟨a4.2,w5,h,rfl⟩
 obtain ⟨hc,h⟩:=cF hc h;refine AW.exit ?_;exact to_L ⟨a4.2,w5,h,rfl⟩
theorem qbx {p0:qkY} {p1:qah} {p2:Int} {r:(List (qah))} (h:qaU p0 p1 p2=some r):Pure Tryz.prog 88 [.agg [hI p0.1.1,slE eStr p0.1.2,.mp p0.2.1 p0.2.2],.agg [.str p1.1,.str p1.2],.int .u8 p2] (· = slE eFirstSecond r):=by
 unfold qaU at h;refine zaj Tryz.func88 rfl rfl (lb rfl) fun hf=>?_;unfold Tryz.f88;dsimp only [qaL,Nat.reduceAdd];refine zaa rfl fun K hK=>b_op rfl (qbh rfl rfl rfl ?_);refine b_op rfl (qbh rfl rfl rfl ?_);refine mv rfl rfl ?_;let E5:Nat × HV:=(3,.fptr [hI p0.1.1,slE eStr p0.1.2,.mp p0.2.1 p0.2.2] 0);let E6:Nat × HV:=(4,.fptr [.str p1.1,.str p1.2] 0);let P2:ASf:=fun t H=>⟨(2,.int .u8 p2)::E5::E6::t,H⟩;refine bf hK (P2 [] []) ?_;refine zaa rfl fun K hK=>mv rfl rfl ?_;refine bf hK (P2 [(7,.v (.slice none 0 0))] []) ?_;refine zad ?_;refine zaa rfl fun K hK=>bv rfl (qac qeM rfl) (bv rfl (qad ty65 rfl (qao rfl (lb rfl) rfl)) (bv rfl (qac qrI rfl) (bv rfl (qad ty9 rfl (qaj rfl rfl)) (mv rfl rfl ?_))));obtain ⟨x1,h2,h⟩:=bS h;refine b_op rfl (qat rfl rfl rfl rfl (zai (qcA h2)) ?_);refine bv rfl (qav rfl rfl ty22 rfl) (mv rfl rfl ?_);let E7:Nat × HV:=(18,hI ((x1).length:Int));refine bf hK (P2 [(7,.v (.slice none 0 0)),(17,slE eStr x1),E7,(19,hI 0)] []) ?_;refine AW.lpX h (by first | exact qa8 | exact qc3) (S:=Int × (List qah)) (V:=Nat) (fun a v=>(P2 [(7,.ar 88039 v eFirstSecond.k 0 ((a.2).length)),(17,slE eStr x1),E7,(19,hI a.1)] [(88039,v,.arr eFirstSecond.k 116 (eFirstSecond.E a.2))])) ?_ (X:=(List qah)) (W:=Nat) (fun a v=>⟨[(7,.ar 88039 v eFirstSecond.k 0 ((a).length))],[(88039,v,.arr eFirstSecond.k 116 (eFirstSecond.E a))]⟩) (fun a22 w23 h=>?_) (fun a3 w4 st5 h=>?_)
 ·refine qeE (qha 88039 7 eFirstSecond.k 116 rfl fun v21=>?_)
  exact qaZ (s':=(P2 [(7,.ar 88039 v21 eFirstSecond.k 0 ((([]:List qah)).length)),(17,slE eStr x1),E7,(19,hI 0)] [(88039,v21,.arr eFirstSecond.k 116 (eFirstSecond.E ([]:List qah)))])) (zam ⟨rfl,rfl,rfl,arl (by first | rfl | simp only [List.length_set,qcS,qcq,List.length_reverse]),rfl,rfl,rfl,trivial⟩ ⟨rfl,trivial⟩) ⟨v21,rfl⟩
 ·refine zaa rfl fun K hK=>mv rfl rfl (mv rfl rfl ?_)
  refine bf hK ⟨[(6,.ar 88039 w23 eFirstSecond.k 0 ((a22).length))],[(88039,w23,.arr eFirstSecond.k 116 (eFirstSecond.E a22))]⟩ ?_;refine AW.to (qgP 2 [(88039,w23,.arr eFirstSecond.k 116 (eFirstSecond.E a22))] ⟨[(6,slE eFirstSecond a22)],[]⟩ ⟨⟨_,rfl,qci eFirstSecond (l:=a22) rfl fun _ _=>rfl⟩,trivial⟩ trivial ⟨rfl,trivial⟩ ⟨rfl,trivial⟩ ?_);obtain rfl:=oi h;exact AW.ret (qae (.inr rfl) (resT rfl rfl) rfl (qar fun _ _=>⟨trivial,trivial,trivial⟩))
 refine zaa rfl fun K hK=>bv rfl (qag rfl rfl qaF) ?_;let E8:Nat × HV:=(7,.ar 88039 w4 eFirstSecond.k 0 ((a3.2).length));let O9:Nat × Nat × AObj:=(88039,w4,.arr eFirstSecond.k 116 (eFirstSecond.E a3.2));refine bf hK (P2 [E8,(17,slE eStr x1),E7,(19,hI a3.1),(20,.bool (decide (a3.1<((x1).length:Int))))] [O9]) ?_;refine zak rfl (fun hc=>?_) (fun hc=>?_)
 ·obtain ⟨hc,h⟩:=cT hc h
  refine zac ?_;refine zad (zaf ?_);refine zaa rfl fun K hK=>?_;obtain ⟨x7,h8,h⟩:=bS h;refine bv rfl (qaI ty22 es22 rfl rfl (qay h8)) (bv rfl (qad ty9 rfl (qaW eStr h8 (o:=0) rfl rfl)) (mv rfl rfl ?_));refine bf hK (P2 [E8,(9,.str x7),(17,slE eStr x1),E7,(19,hI a3.1)] [O9]) ?_;refine zaa rfl fun K hK=>bv rfl (qac qeM rfl) (bv rfl (qad ty65 rfl (qao rfl (lb rfl) rfl)) (bv rfl (qac qrH rfl) (bv rfl (qad ty9 rfl (qaj rfl rfl)) (mv rfl rfl ?_))));obtain ⟨x9,h10,h⟩:=bS h;refine b_op rfl (qat rfl rfl rfl rfl (zai (qcA h10)) ?_);refine bv rfl (qav rfl rfl ty22 rfl) (mv rfl rfl ?_);let E10:Nat × HV:=(29,hI ((x9).length:Int));refine bf hK (P2 [E8,(9,.str x7),(17,slE eStr x1),E7,(19,hI a3.1),(28,slE eStr x9),E10,(30,hI 0)] [O9]) ?_;refine AW.lpX h (by first | exact qa8 | exact qc3) (S:=Int × (List qah)) (V:=Nat) (fun a v=>(P2 [(7,.ar 88039 v eFirstSecond.k 0 ((a.2).length)),(9,.str x7),(17,slE eStr x1),E7,(19,hI a3.1),(28,slE eStr x9),E10,(30,hI a.1)] [(88039,v,.arr eFirstSecond.k 116 (eFirstSecond.E a.2))])) ?_ (X:=(List qah)) (W:=Nat) (fun a v=>(P2 [(7,.ar 88039 v eFirstSecond.k 0 ((a).length)),(17,slE eStr x1),E7,(19,hI a3.1)] [(88039,v,.arr eFirstSecond.k 116 (eFirstSecond.E a))])) (fun a19 w20 h=>?_) (fun a11 w12 st13 h=>?_)
  ·exact to_L ⟨w4,rfl⟩
  ·refine zab rfl fun K hK=>bv rfl (qag rfl rfl qaX) (mv rfl rfl ?_)
   refine qab (hK _ ?_);exact to_L ⟨(IntKind.wrap .i64 (a3.1+1),a19),w20,h,rfl⟩
  refine zaa rfl fun K hK=>bv rfl (qag rfl rfl qaF) ?_;refine bf hK (P2 [(7,.ar 88039 w12 eFirstSecond.k 0 ((a11.2).length)),(9,.str x7),(17,slE eStr x1),E7,(19,hI a3.1),(28,slE eStr x9),E10,(30,hI a11.1),(31,.bool (decide (a11.1<((x9).length:Int))))] [(88039,w12,.arr eFirstSecond.k 116 (eFirstSecond.E a11.2))]) ?_;refine zak rfl (fun hc=>?_) (fun hc=>?_)
  ·obtain ⟨hc,h⟩:=cT hc h
   refine zac ?_;refine zad (zaf ?_);refine zaa rfl fun K hK=>?_;obtain ⟨x15,h16,h⟩:=bS h;refine bv rfl (qaI ty22 es22 rfl rfl (qay h16)) (bv rfl (qad ty9 rfl (qaW eStr h16 (o:=0) rfl rfl)) (mv rfl rfl ?_));refine bf hK (P2 [(7,.ar 88039 w12 eFirstSecond.k 0 ((a11.2).length)),(9,.str x7),(11,.str x15),(17,slE eStr x1),E7,(19,hI a3.1),(28,slE eStr x9),E10,(30,hI a11.1)] [(88039,w12,.arr eFirstSecond.k 116 (eFirstSecond.E a11.2))]) ?_;refine zab rfl fun K hK=>mv rfl rfl (mv rfl rfl (mv rfl rfl ?_));refine b_op rfl (qcC (cs:=[.str x7,.str x15]) rfl (qfM qaJ rfl rfl rfl rfl) ?_);refine b_op rfl (qdx rfl rfl (qdp (cs:=[.str x7,.str x15]) qaR qaJ rfl rfl rfl rfl rfl) ?_);obtain ⟨h18,h⟩:=ifN h;refine b_op rfl (qeF eFirstSecond (l:=a11.2) (m:=[(x7,x15)]) rfl rfl qaR qaR qaJ rfl rfl rfl rfl rfl h18 (fun v17=>?_));refine mv rfl rfl ?_;refine bf hK (P2 [(7,.ar 88039 v17 eFirstSecond.k 0 ((a11.2++[(x7,x15)]).length)),(9,.str x7),(17,slE eStr x1),E7,(19,hI a3.1),(28,slE eStr x9),E10,(30,hI a11.1)] [(88039,v17,.arr eFirstSecond.k 116 (eFirstSecond.E (a11.2++[(x7,x15)])))]) ?_;refine zab rfl fun K hK=>bv rfl (qag rfl rfl qaX) (mv rfl rfl ?_);refine qab (hK _ ?_);exact to_L ⟨(IntKind.wrap .i64 (a11.1+1),a11.2++[(x7,x15)]),v17,h,rfl⟩
  obtain ⟨hc,h⟩:=cF hc h;refine AW.exit ?_;exact to_L ⟨a11.2,w12,h,rfl⟩
 obtain ⟨hc,h⟩:=cF hc h;refine AW.exit ?_;exact to_L ⟨a3.2,w4,h,rfl⟩
end Go.AW

namespace Go.AW
open Go
abbrev qaM:=Int × Int × (List UInt8)
abbrev qiB (x:qaM):List HV:=[HV.int .i64 x.1,HV.int .i64 x.2.1,HV.str x.2.2]
abbrev qa2:EncL qaM:=encF 3 qiB (fun _=>rfl)
abbrev qa4:=Int × Int × (List (List UInt8)) × (List (qaM))
def qdF (p0:List (Int)):Option (Int) :=
 lpO (loopW (S:=Int) (X:=Ou (Unit) (Int)) (fun a1 =>
     if a1<((p0).length:Int) then
      (idx p0 a1).bind fun x5 =>
      if x5≠0 then
       some (Stp.exit (Ou.ret x5))
      else
       some (Stp.next (IntKind.wrap .i64 (a1+1)))
     else
      some (Stp.exit (Ou.go ()))) 0) (fun a7 =>
     some 0) some
def qb2 (p0:qaM) (p1:qaM):Option (Int) :=
 (qa3 p0.1 p1.1).bind fun x1 =>
 (qa3 p0.2.1 p1.2.1).bind fun x3 =>
 (qdF [x1,x3]).bind fun x5 =>
 some x5
def qbX (p0:Int) (p1:Int) (p2:List (List UInt8)):Option (Bool) :=
 lpO (loopW (S:=Int) (X:=Ou (Unit) (Bool)) (fun a1 =>
     if a1<((p2).length:Int) then
      (idx p2 a1).bind fun x5 =>
      jp (fun (a7:Bool) =>
        if a7=true then
         some (Stp.exit (Ou.ret false))
        else
         some (Stp.next (IntKind.wrap .i64 (a1+1))))
        fun k9 =>
       if ((x5).length:Int)≠p1 then
        k9 true
       else
        (qbq p0 x5).bind fun x10 =>
        if x10≠0 then
         k9 true
        else
         if 0≤(0:Int)∧(0:Int)≤a1∧a1≤(p2.length:Int) then
          (qaz ((p2.take (a1).toNat).drop (0:Int).toNat) x5).bind fun x13 =>
          k9 x13
         else none
     else
      some (Stp.exit (Ou.go ()))) 0) (fun a17 =>
     some true) some
def qce (p0 : qa4):Option (Bool) :=
 jp (fun (a1 : Bool) =>
   if a1=true then
    some false
   else
    lpO (loopW (S:=Int × (List (List UInt8))) (X:=Ou ((List (List UInt8))) (Bool)) (fun a4 =>
        if a4.1<((p0.2.2.2).length:Int) then
         (idx p0.2.2.2 a4.1).bind fun x8 =>
         jp (fun (a11:Bool) =>
           if a11=true then
            some (Stp.exit (Ou.ret false))
           else
            if fits 16 ((a4.2:List (List UInt8)).length+([x8.2.2]).length) then
             some (Stp.next (IntKind.wrap .i64 (a4.1+1),a4.2++[x8.2.2]))
            else none)
           fun k13 =>
          if (min x8.1 x8.2.1)<0 then
           k13 true
          else
           if ((p0.2.2.1).length:Int)≤(max x8.1 x8.2.1) then
            k13 true
           else
            if 0<a4.1 then
             (idx p0.2.2.2 (IntKind.wrap .i64 (a4.1 - 1))).bind fun x16 =>
             (qb2 x16 x8).bind fun x18 =>
             k13 (decide (0≤x18))
            else
             k13 false
        else
         some (Stp.exit (Ou.go a4.2))) (0,([]:List (List UInt8)))) (fun a24 =>
        jp (fun (a26:Bool) =>
          some a26)
          fun k28 =>
         (qbX p0.1 p0.2.1 p0.2.2.1).bind fun x29 =>
         if x29=true then
          (qbX p0.1 (IntKind.wrap .i64 (2*p0.2.1)) a24).bind fun x31 =>
          k28 x31
         else
          k28 false) some)
   fun k3 =>
  if p0.1<2 then
   k3 true
  else
   if 16<p0.1 then
    k3 true
   else
    if p0.2.1<1 then
     k3 true
    else
     if 8<p0.2.1 then
      k3 true
     else
      if ((p0.2.2.1).length:Int)<2 then
       k3 true
      else
       if 16<((p0.2.2.1).length:Int) then
        k3 true
       else
        k3 (decide (64<((p0.2.2.2).length:Int)))
def qbM (p0:Int) (c0:qa4):Option (Bool) :=
 jp (fun (a1:Bool) =>
   some a1)
   fun k3 =>
  if p0<0 then
   k3 true
  else
   k3 (decide (((c0.2.2.1).length:Int)≤p0))
end Go.AW
namespace Go.Proofs
open Go
theorem zaS (n:Nat) (hn:2≤n):liesAt Tryz.prog Tryz.prog.depth 69 (n / Tryz.prog.cellsOf 69) 0 69 1=true:=by
 have hc:Tryz.prog.cellsOf 69=2:=by kernel_rfl
 have hd:Tryz.prog.depth=(2*(Tryz.prog.types.size+Made.depth)+1)+1:=rfl;rw [hd];simp only [liesAt,Bool.or_eq_true];left;rw [hd]
 have:1≤n / 2:=by omega
 simp [rowAt,hc,sameLayout,this]
set_option maxHeartbeats 1000000 in
set_option maxRecDepth 100000 in
theorem zay (b n:Nat) (w:World) (h0:w.cell? ⟨b,0,none⟩=some (.pointer none)) (hsh:w.shape? b=some (69,n)) (hn:2≤n) (hfz:w.frozen? ⟨b,0,none⟩=false) :
  Calls Tryz.prog 61 #[.pointer (some ⟨b,0,none⟩)] w fun e w'=>e=.returned (.tuple #[])∧w'=w.setCell ⟨b,0,none⟩ (.pointer (some ⟨b,0,none⟩)):=by
 obtain ⟨j,hj,hjs⟩:=Option.map_eq_some_iff.1 (show (Tryz.prog.info? 69).map (·.size)=some 2 by kernel_rfl);have hlies:=zaS n hn
 go_enter Tryz.func61,Tryz.ntmps61
 go_wp2
 rw [Lib.run_to_unsafe w ⟨b,0,none⟩ Tryz.underlying67 Tryz.underlying142 hj (by rw [hjs]; decide) hsh (by show 0<n; omega)];simp only [Result.andThen];rw [Oper.upon_value]
 go_wp2
 rw [run_callFunc_extern Tryz.func91 (by kernel_rfl) (by kernel_rfl) (by kernel_rfl) (e:=Extern.AbiNoEscape.same) (by kernel_rfl),Lib.run_noEscape];simp only [Result.andThen];rw [Oper.upon_value]
 go_wp2
 rw [Lib.run_from_unsafe w ⟨b,0,none⟩ Tryz.underlying142 Tryz.underlying67 hj hsh hlies];simp only [Result.andThen];rw [Oper.upon_value]
 go_wp2
 go_end0
 exact ⟨rfl,rfl⟩
set_option maxHeartbeats 1000000 in
set_option maxRecDepth 100000 in
theorem zaz (b:Nat) (w:World) (h0:w.cell? ⟨b,0,none⟩=some (.pointer (some ⟨b,0,none⟩))) :
  Calls Tryz.prog 61 #[.pointer (some ⟨b,0,none⟩)] w fun e w'=>e=.returned (.tuple #[])∧w'=w:=by
 obtain ⟨j,hj,_⟩:=Option.map_eq_some_iff.1 (show (Tryz.prog.info? 69).map (·.size)=some 2 by kernel_rfl)
 go_enter Tryz.func61,Tryz.ntmps61
 go_wp2
 rw [Lib.run_neq_ptr_same w _ Tryz.underlying67 hj]
 go_wp2
 go_end0
 exact ⟨rfl,rfl⟩
end Go.Proofs
namespace Go.AW
open Go Go.Proofs Go.Lib
def bldP (u:Bool) (id ver:Nat):HV:=if u then .ptr id ver 0 else .v (.pointer none)
theorem qmt {H:Heap} {K:HV→Heap→Prop} {id ver:Nat} {u:Bool} {s:HV} (hg:hget H id=some (ver,.arr 2 69 [bldP u id ver,s])) (hK:K (.tup []) ((id,ver,.arr 2 69 [.ptr id ver 0,s])::H)) :
  ACall Tryz.prog 61 [.ptr id ver 0] H K:=by
 refine ⟨qde Tryz.func61 rfl rfl,fun μ w vs hs hr _=>?_⟩;obtain ⟨x,xs,rfl,hr,hn⟩:=hr;cases hn;obtain ⟨lo,hl,hor⟩:=hs.has _ _ _ hg
 have hle:∀ ob j (y:Nat × AObj),hget ((id,ver,ob)::H) j=some y↔hget (hset H id ver ob) j=some y:=fun ob j y=>by simp only [hget,qap]
 rcases hr with ⟨b,hl',rfl⟩ | ⟨hd,_⟩
 ·rw [hl] at hl'
  cases hl';obtain ⟨h1,cur,vs',rest,hrow,hcl,hrl⟩:=hor;obtain ⟨v0,vs1,rfl,r0,v1,vs2,rfl,r1,hn⟩:=hrl;cases hn;have hrow2:=hrow;obtain ⟨lo',hi',hbk,hfr⟩:=hrow2
  have hsz:2≤cur.size:=by rw [← Array.length_toList,hcl]; simp
  have hc0:cur[0]?=some v0:=by rw [← Array.getElem?_toList,hcl]; rfl
  have hcell:w.cell? ⟨b,0,none⟩=some v0:=by rw [Lib.cell_of_heap hbk]; exact hc0
  cases u with
  | false =>
   obtain rfl:v0=.pointer none:=r0;refine (zay b cur.size w hcell (by simp [World.shape?,hbk]) hsz (hrow.free (by omega))).mono ?_
   rintro e w' ⟨rfl,rfl⟩
   have hbk':(w.setCell ⟨b,0,none⟩ (.pointer (some ⟨b,0,none⟩))).heap[b]?=some (.cells (cur.setIfInBounds 0 (.pointer (some ⟨b,0,none⟩))) 69 (lo',hi')):=by
    show (w.heap.modify b _)[b]?=_;rw [Array.getElem?_modify,if_pos rfl,hbk];rfl
   obtain ⟨hsr,hE⟩:=hs.updArr (w':=w.setCell ⟨b,0,none⟩ (.pointer (some ⟨b,0,none⟩))) (cs':=[.ptr id ver 0,s]) hg hl ⟨rfl,rfl,rfl⟩ (by show (w.heap.modify b _).size=_; simp) (fun b' hne=>by
    show (w.heap.modify b _)[b']?=_
    rw [Array.getElem?_modify,if_neg (fun e=>hne e.symm)]) hrow ⟨lo',hi',hbk',by simpa using hfr⟩ (by simp) fun E=>by
     refine ⟨fun c hc=>?_,_,[.pointer (some ⟨b,0,none⟩),v1],rest,⟨lo',hi',hbk',by simpa using hfr⟩,?_,?_⟩
     ·rcases List.mem_cons.1 hc with rfl | hc
      ·rfl
      exact h1 c (List.mem_cons_of_mem _ hc)
     ·rw [Array.toList_setIfInBounds,hcl]; rfl
     exact ⟨_,_,rfl,.inl ⟨b,hl,rfl⟩,_,_,rfl,Rep.evo E hs.ok _ _ r1,rfl⟩
   exact ⟨_,.tup [],_,μ,rfl,hK,hsr.le (hle _),⟨[],rfl,rfl⟩,hE⟩
  | true =>
   rcases r0 with ⟨b',hl2,rfl⟩ | ⟨hd,_⟩
   ·rw [hl] at hl2
    cases hl2;refine (zaz b w hcell).mono ?_
    rintro e w' ⟨rfl,rfl⟩
    exact ⟨_,.tup [],_,μ,rfl,hK,(hs.same hg).le (hle _),⟨[],rfl,rfl⟩,Evo.refl _ _⟩
   exact absurd hl (hd.2 _)
 exact absurd hl (hd.2 _)
end Go.AW
namespace Go.AW
open Go
abbrev eByte:EncL UInt8:=encM fun b=>HV.int .u8 (b.toNat:Int)
section
variable {P:Program} {ro:Option Nat} {N:Nat} {s:AS} {o:Oper} {sl:List (Nat × HV)} {H:Heap} {all:Array Oper} {rest:List Oper} {K:AS→Prop}
theorem qsf {d:Nat} {t xt e:TypeId} {a b a2 b2:Nat} {z z2:Value} {aa:Array Operand} {ts:Array TypeId} {x y:Operand} {Te:TyI} {l m:List UInt8} {id ver:Nat} (h0:(o.dst,o.op)=(some d,.call ⟨.builtin .append,aa,ts⟩)) (ha:(aa.toList,ts.toList)=([x,y],[t,xt])) (hT:ty P t=some ⟨.slice e,a,b,z⟩) (hxt:ty P xt=some ⟨.string,a2,b2,z2⟩) (hTe:ty P e=some Te)
  (hx:s.ev x=some (.ar id ver eByte.k 0 l.length)) (hg:hget s.heap id=some (ver,.arr eByte.k e (eByte.E l))) (hy:s.ev y=some (.str m)) (hk:Te.size=1) (hz:(qbj Te.zero).any (fun zs=>zs.length == Te.size)=true) (h:fits Te.bytes (l.length+m.length))
  (k:∀ ver',bops P ro N all rest K ⟨(d,.ar id ver' eByte.k 0 (l++m).length)::s.slots,(id,ver',.arr eByte.k e (eByte.E (l++m)))::s.heap⟩):aop P 0 [] o (fun s'=>bops P ro N all rest K s') s:=by
 obtain ⟨h3,h4⟩:=Prod.mk.inj h0;obtain ⟨h5,h6⟩:=Prod.mk.inj ha;have ek:eByte.k=1:=rfl;refine qje (n:=l.length) (m:=m.length) (cs:=eByte.E l) (ds:=eByte.E m) h4 h5 h6 hT hx hy hTe hz ?_ ?_ h ?_
 ·simp only [qhE,hg]
  refine ⟨trivial,hk.symm,trivial,trivial,?_,trivial,?_⟩
  ·rw [hk,eByte.len]; exact Nat.le_refl _
  rw [hk];show (eByte.E l).take (l.length*eByte.k)=_;rw [eByte.take,List.take_length]
 ·simp only [asrc,hxt]
  exact ⟨hk,trivial,rfl⟩
 intro ver';have e1:qhz (.ar id ver eByte.k 0 l.length) (cid 0 o.dst)=id:=rfl;have e2:eByte.E l++eByte.E m=eByte.E (l++m):=(eByte.append l m).symm;rw [e1,h3,hk,e2];have e3:(l++m).length=l.length+m.length:=List.length_append;have:=k ver';rw [e3] at this;exact qaG (qel id ver' _ d _) this
end
open Go.Proofs
def bldO (id ver aid aver:Nat) (u:Bool) (l:List UInt8):AObj:=.arr 2 69 [bldP u id ver,.ar aid aver 1 0 l.length]
def bytO (l:List UInt8):AObj:=.arr 1 5 (eByte.E l)
theorem qm3 {id v j w:Nat} {o p:AObj} {H:Heap} (h:j≠id) (hj:hget H j=some (w,p)):hget ((id,v,o)::H) j=some (w,p):=by
 simp only [hget];rw [if_neg (by omega)];exact hj
end Go.AW
namespace Go.Proofs
open Go
def But (g:Nat) (w w':World):Prop:=Go.AW.Same w w'∧w.heap.size≤w'.heap.size∧∀ k,k<w.heap.size→k≠g→w'.heap[k]?=w.heap[k]?
set_option maxHeartbeats 2000000 in
set_option maxRecDepth 100000 in
theorem zaT (b g:Nat) (w:World) (c0:w.cell? ⟨b,1,none⟩=some (.slice none 0 0)) :
  Calls Tryz.prog 32 #[.pointer (some ⟨b,0,none⟩)] w fun e w'=>e=.returned (.string ⟨#[]⟩)∧But g w w':=by
 have hUS:∀ (W:World) (q:Option Addr),(Builtin.unsafeString_ #[120,3] 9 #[.pointer q,.int .i64 0]).run Tryz.prog W=.ok (.string .empty) W:=fun W q=>Lib.run_unsafeString_none W _ _ _ q;have c1:w.drew.cell? ⟨b,1,none⟩=some (.slice none 0 0):=c0;have hSD:(Builtin.unsafeSliceData_ #[28] 120 #[.slice none 0 0]).run Tryz.prog w.drew=.ok (.pointer none) w.drew:=rfl
 have mixed:Tryz.prog.follows .mixedOrders=true:=by kernel_rfl
 go_enter Tryz.func32,Tryz.ntmps32
 go_wp2
 go_region_o
 all_goals (go_wp2; go_ret; exact ⟨rfl,⟨rfl,rfl,rfl⟩,Nat.le_refl _,fun _ _ _=>rfl⟩)
set_option maxHeartbeats 2000000 in
set_option maxRecDepth 100000 in
theorem zaN (b g cap:Nat) (w:World) (hc0:cap≠0) (c0:w.cell? ⟨b,1,none⟩=some (.slice (some ⟨g,0,none⟩) 0 cap)) :
  Calls Tryz.prog 32 #[.pointer (some ⟨b,0,none⟩)] w fun e w'=>e=.returned (.string ⟨#[]⟩)∧But g w w':=by
 have hUS:∀ (W:World) (q:Option Addr),(Builtin.unsafeString_ #[120,3] 9 #[.pointer q,.int .i64 0]).run Tryz.prog W=.ok (.string .empty) W:=fun W q=>Lib.run_unsafeString_none W _ _ _ q;have c1:w.drew.cell? ⟨b,1,none⟩=some (.slice (some ⟨g,0,none⟩) 0 cap):=c0;have hSD:(Builtin.unsafeSliceData_ #[28] 120 #[.slice (some ⟨g,0,none⟩) 0 cap]).run Tryz.prog w.drew=.ok (.pointer (some ⟨g,0,none⟩)) w.drew:=Lib.run_unsafeSliceData_row _ _ _ _ _ _ hc0;clear hc0
 have mixed:Tryz.prog.follows .mixedOrders=true:=by kernel_rfl
 go_enter Tryz.func32,Tryz.ntmps32
 go_wp2
 go_region_o
 all_goals (go_wp2; go_ret; exact ⟨rfl,⟨rfl,rfl,rfl⟩,Nat.le_refl _,fun _ _ _=>rfl⟩)
set_option maxHeartbeats 2000000 in
set_option maxRecDepth 100000 in
theorem zaG (b g:Nat) (cur:Array Value) (fr:Nat × Nat) (w:World) (hlt:b<w.heap.size) (c0:w.cell? ⟨b,1,none⟩=some (.slice (some ⟨g,0,none⟩) 0 0)) (hg:w.heap[g]?=some (.cells cur 5 fr)) :
  Calls Tryz.prog 32 #[.pointer (some ⟨b,0,none⟩)] w fun e w'=>e=.returned (.string ⟨#[]⟩)∧But g w w':=by
 have hUS:∀ (W:World) (q:Option Addr),(Builtin.unsafeString_ #[120,3] 9 #[.pointer q,.int .i64 0]).run Tryz.prog W=.ok (.string .empty) W:=fun W q=>Lib.run_unsafeString_none W _ _ _ q;have c1:w.drew.cell? ⟨b,1,none⟩=some (.slice (some ⟨g,0,none⟩) 0 0):=c0
 have hSD:(Builtin.unsafeSliceData_ #[28] 120 #[.slice (some ⟨g,0,none⟩) 0 0]).run Tryz.prog w.drew=.ok (.pointer (some ⟨w.drew.heap.size,0,none⟩)) (w.drew.alloc (.view ⟨g,0,none⟩ 5)) :=
  Lib.run_unsafeSliceData_zero w.drew _ _ 5 Tryz.underlying120 ⟨g,0,none⟩ 0 (5,cur.size) (by have hg':w.drew.heap[g]?=some (.cells cur 5 fr):=hg; simp [World.shape?,hg'])
 have c2:(w.drew.alloc (.view ⟨g,0,none⟩ 5)).cell? ⟨b,1,none⟩=some (.slice (some ⟨g,0,none⟩) 0 0):=by
  have e:(w.drew.alloc (.view ⟨g,0,none⟩ 5)).heap[b]?=w.heap[b]?:=Lib.alloc_old w.drew _ b hlt
  have h1:(w.drew.alloc (.view ⟨g,0,none⟩ 5)).cell? ⟨b,1,none⟩=w.cell? ⟨b,1,none⟩:=by simp only [World.cell?,e]
  rw [h1]; exact c0
 have c3:(w.alloc (.view ⟨g,0,none⟩ 5)).drew.cell? ⟨b,1,none⟩=some (.slice (some ⟨g,0,none⟩) 0 0):=c2
 have mixed:Tryz.prog.follows .mixedOrders=true:=by kernel_rfl
 go_enter Tryz.func32,Tryz.ntmps32
 go_wp2
 go_region_o
 all_goals (go_wp2; go_ret; exact ⟨rfl,⟨rfl,rfl,rfl⟩,by show w.heap.size≤(w.heap.push _).size; rw [Array.size_push]; omega,fun k hk _=>Lib.alloc_old w.drew _ k hk⟩)
set_option maxHeartbeats 2000000 in
set_option maxRecDepth 100000 in
theorem zaM (b g cap:Nat) (cur:Array Value) (fr:Nat × Nat) (l:List UInt8) (w:World) (h0:l≠[]) (c0:w.cell? ⟨b,1,none⟩=some (.slice (some ⟨g,0,none⟩) l.length cap)) (hg:w.heap[g]?=some (.cells cur 5 fr)) (hcap:l.length≤cap) (hsz:cur.size=cap) (hcm:cap≤maxLen)
  (hcell:∀ (j:Nat) (x:UInt8),l[j]?=some x→cur[j]?=some (.int .u8 x.toNat)) :
  Calls Tryz.prog 32 #[.pointer (some ⟨b,0,none⟩)] w fun e w'=>e=.returned (.string ⟨l.toArray⟩)∧But g w w':=by
 have hl0:l.length≠0:=by simpa using h0
 have c1:w.drew.cell? ⟨b,1,none⟩=some (.slice (some ⟨g,0,none⟩) l.length cap):=c0;have hSD:(Builtin.unsafeSliceData_ #[28] 120 #[.slice (some ⟨g,0,none⟩) l.length cap]).run Tryz.prog w.drew=.ok (.pointer (some ⟨g,0,none⟩)) w.drew:=Lib.run_unsafeSliceData_row _ _ _ _ _ _ (by omega)
 have hUS:(Builtin.unsafeString_ #[120,3] 9 #[.pointer (some ⟨g,0,none⟩),.int .i64 l.length]).run Tryz.prog w.drew=.ok (.string ⟨l.toArray⟩) (w.drew.freeze ⟨g,0,none⟩ l.length):=by
  refine Lib.run_unsafeString_row w.drew 120 3 9 5 Tryz.underlying120 (by kernel_rfl) g cur.size (by have hg':w.drew.heap[g]?=some (.cells cur 5 fr):=hg; simp [World.shape?,hg']) l h0 (by omega) (by unfold maxLen at hcm; omega) ?_;intro j x hx;have hg':w.drew.heap[g]?=some (.cells cur 5 fr):=hg;rw [Addr.add_lit,Nat.zero_add,Lib.cell_of_heap hg'];exact hcell j x hx
 have hfz:But g w (w.drew.freeze ⟨g,0,none⟩ l.length):=by
  unfold World.freeze;rw [if_neg hl0];refine ⟨⟨rfl,rfl,rfl⟩,by show w.heap.size≤(w.heap.modify g _).size; simp,fun k hk hne=>?_⟩;show (w.heap.modify g _)[k]?=_;rw [Array.getElem?_modify,if_neg (fun e=>hne e.symm)]
 clear hcell hsz hcap hcm h0 hl0 hg
 have mixed:Tryz.prog.follows .mixedOrders=true:=by kernel_rfl
 go_enter Tryz.func32,Tryz.ntmps32
 go_wp2
 go_region_o
 all_goals (go_wp2; go_ret; exact ⟨rfl,hfz⟩)
end Go.Proofs
namespace Go.AW
open Go
section
open Go Go.Proofs Go.Lib
theorem qmO {w:World} {μ:Mu}:∀ {l:List UInt8} {vs:List Value},RepL w μ (l.map fun b=>HV.int .u8 (b.toNat:Int)) vs→vs=l.map fun b=>Value.int .u8 (b.toNat:Int)
 | [],vs,h=>h
 | x::l,vs,h=>by
  obtain ⟨v,vs',rfl,hx,hr⟩:=h;obtain ⟨rfl,_⟩:=hx;rw [qmO hr];rfl
theorem qnk {H:Heap} {K:HV→Heap→Prop} {id ver aid aver:Nat} {u:Bool} {l:List UInt8} (hg:hget H id=some (ver,bldO id ver aid aver u l)) (ha:hget H aid=some (aver,bytO l)) (hK:∀ av,K (.str l) ((aid,av,.arr 1 5 [])::H)) :
  ACall Tryz.prog 32 [.ptr id ver 0] H K:=by
 refine ⟨qde Tryz.func32 rfl rfl,fun μ w vs hs hr _=>?_⟩;obtain ⟨x,xs,rfl,hr,hn⟩:=hr;cases hn;obtain ⟨lo,hl,hor⟩:=hs.has _ _ _ hg;obtain ⟨la,hla,hora⟩:=hs.has _ _ _ ha
 have hle:∀ v ob j (y:Nat × AObj),hget ((aid,v,ob)::H) j=some y↔hget (hset H aid v ob) j=some y:=fun v ob j y=>by simp only [hget,qap]
 have fin:∀ (g:Nat) (w':World),(∀ b,μ.loc aid=some (aver,some b)→b=g)→(la=none→w.heap.size≤g)→l.length≤maxLen→But g w w'→∃ v r H' μ',Ending.returned (.string ⟨l.toArray⟩)=.returned v∧K r H'∧SR w' μ' H'∧Rep w' μ' r v∧Evo w μ w' μ':=by
  intro g w' hb hgn hlen ⟨h1,h2,h3⟩
  have hold:∀ b,b<w.heap.size→(∀ ver,μ.loc aid≠some (ver,some b))→w'.heap[b]?=w.heap[b]?:=fun b hb1 hb2=>by
   by_cases e:b=g
   ·cases la with
    | none=>exact absurd (hgn rfl) (by omega)
    | some b0 =>
     have:=hb b0 hla;subst this;subst e;exact absurd hla (hb2 _)
   exact h3 b hb1 e
  have hsr:=hs.repl aid none (.arr 1 5 []) h1 h2 hold (fun b hb=>by cases hb) rfl;have hE:=Evo.repl hs aid none h1 h2 hold (fun b hb=>by cases hb);exact ⟨_,.str l,_,μ.set aid none,rfl,hK μ.nx,hsr.le (hle _ _),⟨rfl,hlen⟩,hE⟩
 rcases hr with ⟨b,hl',rfl⟩ | ⟨hd,_⟩
 ·rw [hl] at hl'
  cases hl';obtain ⟨h1,cur,vs',rest,hrow,hcl,hrl⟩:=hor;obtain ⟨v0,vs1,rfl,r0,v1,vs2,rfl,r1,hn⟩:=hrl;cases hn;have hrow2:=hrow;obtain ⟨lo',hi',hbk,hfr⟩:=hrow2
  have hc1:cur[1]?=some v1:=by rw [← Array.getElem?_toList,hcl]; rfl
  have hcell:w.cell? ⟨b,1,none⟩=some v1:=by rw [Lib.cell_of_heap hbk]; exact hc1
  have hlt:b<w.heap.size:=by
   rcases Nat.lt_or_ge b w.heap.size with h' | h'
   ·exact h'
   simp [Array.getElem?_eq_none h'] at hbk
  rcases r1 with ⟨la',hla',⟨rfl,rfl,h0,_⟩ | ⟨g,cap,curg,e,rfl,rfl,hnc,hcm,hrowg,hszg⟩⟩ | ⟨hd,_⟩
  ·have hln:=List.eq_nil_of_length_eq_zero h0
   subst hln;refine (zaT b w.heap.size w hcell).mono ?_
   rintro e w' ⟨rfl,hb⟩
   exact fin _ w' (fun b hb=>by rw [hla'] at hb; cases hb) (fun _=>Nat.le_refl _) (Nat.zero_le _) hb
  ·rw [hla] at hla'
   cases hla';obtain ⟨_,cur2,vs2,rest2,hrow2,hcl2,hrl2⟩:=hora;obtain ⟨lo2,hi2,hbg,hfr2⟩:=hrow2;obtain ⟨lo3,hi3,hbg3,hfr3⟩:=hrowg;rw [hbg] at hbg3;cases hbg3;have hvs:=qmO hrl2;subst hvs
   have hb1:∀ b,μ.loc aid=some (aver,some b)→b=g:=fun b hb=>by rw [hla] at hb; cases hb; rfl
   by_cases h0:l=[]
   ·subst h0
    by_cases hc0:cap=0
    ·subst hc0
     refine (zaG b g curg _ w hlt hcell hbg).mono ?_
     rintro e w' ⟨rfl,hb⟩
     exact fin g w' hb1 (fun e=>by cases e) (Nat.zero_le _) hb
    refine (zaN b g cap w hc0 hcell).mono ?_
    rintro e w' ⟨rfl,hb⟩
    exact fin g w' hb1 (fun e=>by cases e) (Nat.zero_le _) hb
   refine (zaM b g cap curg _ l w h0 hcell hbg hnc (by omega) hcm fun j x hj=>?_).mono ?_
   ·rw [← Array.getElem?_toList,hcl2,List.getElem?_append_left (by
     have:=(List.getElem?_eq_some_iff.1 hj).1
     simpa using this),List.getElem?_map,hj]
    rfl
   rintro e w' ⟨rfl,hb⟩
   exact fin g w' hb1 (fun e=>by cases e) (by omega) hb
  exact absurd hla (hd.2 _)
 exact absurd hl (hd.2 _)
end
end Go.AW
end
