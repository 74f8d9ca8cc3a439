import Derived.Test.YtdghoeofijghfaaGreatMg5
import Derived.Shelf.Strings.Repeat
import Derived.Test.YtdghoeofijghfaaGreatChecked
set_option linter.unusedSimpArgs false
set_option linter.unusedVariables false
noncomputable section
namespace Go.AW
open Go
inductive RT (nx:Nat→List Int):Nat→Nat→Prop
 | refl (s:Nat):RT nx s s
 | tail {s a:Nat} {t:Int} (h:RT nx s a) (ht:t∈nx a):RT nx s t.toNat
theorem RT.head {nx:Nat→List Int} {s:Nat} {t:Int} {b:Nat} (ht:t∈nx s) (h:RT nx t.toNat b):RT nx s b:=by
 induction h with
 | refl=>exact .tail (.refl s) ht
 | tail _ h2 ih=>exact .tail ih h2
theorem RT.trans {nx:Nat→List Int} {a b c:Nat} (h:RT nx a b) (h2:RT nx b c):RT nx a c:=by
 induction h2 with
 | refl=>exact h
 | tail _ h3 ih=>exact .tail ih h3
def isOn (l:List Bool) (i:Nat):Prop:=l[i]?=some true
theorem qhq {l:List Bool} {i:Nat} (hi:i<l.length):(l.getD i true=true)=isOn l i:=by
 unfold isOn;rw [List.getD_eq_getElem?_getD,List.getElem?_eq_getElem hi];simp
theorem qeZ {l:List Bool} {s i:Nat} (hs:s<l.length):isOn (l.set s true) i↔i=s∨isOn l i:=by
 unfold isOn;by_cases e:s=i
 ·subst e
  rw [List.getElem?_set_self hs];simp
 rw [List.getElem?_set_ne e];exact ⟨.inr,fun h=>h.resolve_left fun h=>e h.symm⟩
theorem qjL {nx:Nat→List Int} {S:Nat} (hb:∀ i,i<S→∀ t∈nx i,0≤t∧t<(S:Int)):∀ (n:Nat) (seen:List Bool) (s:Nat),seen.length=S→s<S→¬ isOn seen s→seen.count false≤n →
  (∀ i,isOn seen i→isOn (qcy nx n seen s) i)∧isOn (qcy nx n seen s) s∧(∀ i,isOn (qcy nx n seen s) i→¬ isOn seen i→∀ t∈nx i,isOn (qcy nx n seen s) t.toNat)∧∀ i,isOn (qcy nx n seen s) i→isOn seen i∨RT nx s i
 | 0,seen,s,hl,hs,ho,hc=>by
  have:seen.getD s true=false:=by
   rw [← Bool.not_eq_true,qhq (by omega)];exact ho
  have:=qdo this;omega
 | n + 1,seen,s,hl,hs,ho,hc=>by
  have h0:seen.getD s true=false:=by
   rw [← Bool.not_eq_true,qhq (by omega)];exact ho
  have hc0:=qdo h0
  have key:∀ (l:List Int),(∀ t∈l,t∈nx s)→∀ (sn:List Bool),sn.length=S→sn.count false≤n→(∀ i,i=s∨isOn seen i→isOn sn i)→(∀ i,isOn sn i→¬ (i=s∨isOn seen i)→∀ t∈nx i,isOn sn t.toNat)→(∀ i,isOn sn i→isOn seen i∨RT nx s i) →
    let r:=l.foldl (fun sn t=>if sn.getD t.toNat true=true then sn else qcy nx n sn t.toNat) sn
    (∀ i,isOn sn i→isOn r i)∧(∀ i,isOn r i→¬ (i=s∨isOn seen i)→∀ t∈nx i,isOn r t.toNat)∧(∀ i,isOn r i→isOn seen i∨RT nx s i)∧∀ t∈l,isOn r t.toNat:=by
   intro l
   induction l with
   | nil=>exact fun _ sn _ _ _ h2 h3=>⟨fun _ h=>h,h2,h3,fun _ h=>nomatch h⟩
   | cons t l ih =>
    intro hl' sn e1 e2 e3 e4 e5;have ht:=hl' t (List.mem_cons_self ..);obtain ⟨t0,t1⟩:=hb s hs t ht
    have htl:t.toNat<sn.length:=by omega
    rw [List.foldl_cons];dsimp only;by_cases hon:isOn sn t.toNat
    ·rw [if_pos (by rw [qhq htl]; exact hon)]
     obtain ⟨r1,r2,r3,r4⟩:=ih (fun x hx=>hl' x (List.mem_cons_of_mem _ hx)) sn e1 e2 e3 e4 e5;refine ⟨r1,r2,r3,fun x hx=>?_⟩
     rcases List.mem_cons.1 hx with rfl | hx
     ·exact r1 _ hon
     exact r4 x hx
    rw [if_neg (by rw [qhq htl]; exact hon)];obtain ⟨v1,v2,v3,v4⟩:=qjL hb n sn t.toNat e1 (by omega) hon e2
    obtain ⟨r1,r2,r3,r4⟩:=ih (fun x hx=>hl' x (List.mem_cons_of_mem _ hx)) (qcy nx n sn t.toNat) (by rw [qey]; exact e1) (Nat.le_trans (qf4 ..) e2) (fun i hi=>v1 _ (e3 i hi)) (fun i hi hn t' ht'=>by
     by_cases hi2:isOn sn i
     ·exact v1 _ (e4 i hi2 hn t' ht')
     ·exact v3 i hi hi2 t' ht') (fun i hi=>by
     rcases v4 i hi with h | h
     ·exact e5 i h
     exact .inr (RT.head ht h))
    refine ⟨fun i hi=>r1 i (v1 i hi),r2,r3,fun x hx=>?_⟩
    rcases List.mem_cons.1 hx with rfl | hx
    ·exact r1 _ v2
    exact r4 x hx
  obtain ⟨r1,r2,r3,r4⟩:=key (nx s) (fun _ h=>h) (seen.set s true) (by rw [List.length_set]; exact hl) (by omega) (fun i hi=>(qeZ (by omega)).2 hi) (fun i hi hn=>absurd ((qeZ (by omega)).1 hi) hn) (fun i hi=>by
   rcases (qeZ (by omega)).1 hi with rfl | h
   ·exact .inr (.refl _)
   exact .inl h)
  have hv:qcy nx (n+1) seen s=(nx s).foldl (fun sn t=>if sn.getD t.toNat true=true then sn else qcy nx n sn t.toNat) (seen.set s true):=rfl;rw [hv];refine ⟨fun i hi=>r1 i ((qeZ (by omega)).2 (.inr hi)),r1 s ((qeZ (by omega)).2 (.inl rfl)),fun i hi hn=>?_,r3⟩;by_cases e:i=s
  ·subst e; exact r4
  exact r2 i hi (fun h=>h.elim e hn)
theorem qsx {a b:List Bool} (hl:a.length=b.length) (h:∀ i,i<a.length→(isOn a i↔isOn b i)):a=b:=by
 apply List.ext_getElem hl;intro i h1 h2;have:=h i h1;unfold isOn at this;rw [List.getElem?_eq_getElem h1,List.getElem?_eq_getElem h2] at this;simp only [Option.some.injEq] at this
 cases ha:a[i] <;> cases hb:b[i] <;> simp_all
theorem qeU {S i:Nat}:¬ isOn (List.replicate S false) i:=by
 unfold isOn;rw [List.getElem?_replicate]
 split <;> simp
theorem qiZ {nx:Nat→List Int} {S s:Nat} (hb:∀ i,i<S→∀ t∈nx i,0≤t∧t<(S:Int)) (hs:s<S) (i:Nat):isOn (qcy nx S (List.replicate S false) s) i↔RT nx s i:=by
 obtain ⟨_,h2,h3,h4⟩:=qjL hb S (List.replicate S false) s (by simp) hs qeU (by simp);refine ⟨fun h=>(h4 i h).resolve_left qeU,fun h=>?_⟩
 induction h with
 | refl=>exact h2
 | tail _ ht ih=>exact h3 _ ih qeU _ ht
theorem RT.lt {nx:Nat→List Int} {S s i:Nat} (hb:∀ i,i<S→∀ t∈nx i,0≤t∧t<(S:Int)) (hs:s<S) (h:RT nx s i):i<S:=by
 induction h with
 | refl=>exact hs
 | tail _ ht ih =>
  have:=hb _ ih _ ht;omega
def rndE (o:List Bool) (e:qaq):List Bool:=if o.getD e.1.toNat false=true then o.set e.2.2.toNat true else o
def rnd (E:List qaq) (o:List Bool):List Bool:=E.foldl rndE o
def rnds (E:List qaq):Nat→List Bool→List Bool
 | 0,o=>o
 | n+1,o=>rnds E n (rnd E o)
theorem qhp {l:List Bool} {i:Nat}:(l.getD i false=true)=isOn l i:=by
 unfold isOn;rw [List.getD_eq_getElem?_getD]
 cases h:l[i]? with
 | none=>simp
 | some b=>simp
section
variable {E:List qaq} {S:Nat} (hE:∀ e∈E,(0≤e.1∧e.1<(S:Int))∧(0≤e.2.2∧e.2.2<(S:Int)))
theorem qkx (o:List Bool) (e:qaq):(rndE o e).length=o.length:=by
 unfold rndE;split
 ·exact List.length_set
 rfl
theorem qhP:∀ (E:List qaq) (o:List Bool),(rnd E o).length=o.length
 | [],_=>rfl
 | e::E,o=>(qhP E (rndE o e)).trans (qkx o e)
theorem qkw {o:List Bool} {e:qaq} (h:e.2.2.toNat<o.length) (i:Nat):isOn (rndE o e) i↔isOn o i∨(isOn o e.1.toNat∧i=e.2.2.toNat):=by
 unfold rndE;split
 ·rename_i h1
  rw [qhp] at h1;rw [qeZ h];constructor
  ·rintro (rfl | h2)
   ·exact .inr ⟨h1,rfl⟩
   exact .inl h2
  rintro (h2 | ⟨_,rfl⟩)
  ·exact .inr h2
  exact .inl rfl
 rename_i h1
 rw [qhp] at h1;exact ⟨.inl,fun h=>h.resolve_right fun h2=>h1 h2.1⟩
theorem qmJ:∀ (E:List qaq) (o:List Bool),(∀ e∈E,e.2.2.toNat<o.length)→(∀ i,isOn o i→isOn (rnd E o) i)∧(∀ e∈E,isOn o e.1.toNat→isOn (rnd E o) e.2.2.toNat)
 | [],o,_=>⟨fun _ h=>h,fun _ h=>nomatch h⟩
 | e::E,o,h=>by
  have he:=h e (List.mem_cons_self ..);obtain ⟨h1,h2⟩:=qmJ E (rndE o e) (fun x hx=>by rw [qkx]; exact h x (List.mem_cons_of_mem _ hx));refine ⟨fun i hi=>h1 i ((qkw he i).2 (.inl hi)),fun x hx ho=>?_⟩
  rcases List.mem_cons.1 hx with rfl | hx
  ·exact h1 _ ((qkw he _).2 (.inr ⟨ho,rfl⟩))
  exact h2 x hx ((qkw he _).2 (.inl ho))
theorem qla {nx:Nat→List Int} {s:Nat}:∀ (E:List qaq) (o:List Bool),(∀ e∈E,e.2.2.toNat<o.length∧e.2.2∈nx e.1.toNat)→(∀ i,isOn o i→RT nx s i)→∀ i,isOn (rnd E o) i→RT nx s i
 | [],_,_,h=>h
 | e::E,o,hE,h=>by
  obtain ⟨e1,e2⟩:=hE e (List.mem_cons_self ..);refine qla E (rndE o e) (fun x hx=>by rw [qkx]; exact hE x (List.mem_cons_of_mem _ hx)) fun i hi=>?_
  rcases (qkw e1 i).1 hi with h1 | ⟨h1,rfl⟩
  ·exact h i h1
  exact .tail (h _ h1) e2
theorem qka:∀ {a b:List Bool},a.length=b.length→(∀ i,isOn a i→isOn b i)→b.count false≤a.count false∧(b.count false=a.count false→b=a)
 | [],[],_,_=>⟨Nat.le_refl _,fun _=>rfl⟩
 | x::a,y::b,hl,h=>by
  obtain ⟨h1,h2⟩:=qka (a:=a) (b:=b) (by simpa using hl) (fun i hi=>by
   have:=h (i+1) (by unfold isOn at *; simpa using hi);unfold isOn at *
   simpa using this)
  have h0:=h 0;unfold isOn at h0;simp only [List.getElem?_cons_zero,Option.some.injEq] at h0;simp only [List.count_cons]
  cases x <;> cases y <;> simp at h0 ⊢
  ·exact ⟨h1,h2⟩
  ·constructor
   ·omega
   intro h; omega
  exact ⟨h1,h2⟩
theorem qi8 (hT:∀ e∈E,e.2.2.toNat<S):∀ (n:Nat) (o:List Bool),o.length=S→(∀ i,isOn o i→isOn (rnds E n o) i)∧((rnds E n o).count false+n≤o.count false∨∀ e∈E,isOn (rnds E n o) e.1.toNat→isOn (rnds E n o) e.2.2.toNat)
 | 0,o,_=>⟨fun _ h=>h,.inl (Nat.le_refl _)⟩
 | n + 1,o,hl=>by
  have hT':∀ e∈E,e.2.2.toNat<o.length:=fun e he=>by rw [hl]; exact hT e he
  obtain ⟨m1,m2⟩:=qmJ E o hT';obtain ⟨h1,h2⟩:=qi8 hT n (rnd E o) (by rw [qhP]; exact hl);refine ⟨fun i hi=>h1 i (m1 i hi),?_⟩;obtain ⟨c1,c2⟩:=qka (a:=o) (b:=rnd E o) (qhP E o).symm m1;by_cases hc:(rnd E o).count false=o.count false
  ·have e:=c2 hc
   have st:∀ m,rnds E m o=o:=by
    intro m
    induction m with
    | zero=>rfl
    | succ m ih =>
     show rnds E m (rnd E o)=o;rw [e];exact ih
   refine .inr ?_;rw [st];intro x hx ho;have:=m2 x hx ho
   rwa [e] at this
  rcases h2 with h2 | h2
  ·refine .inl ?_
   show (rnds E n (rnd E o)).count false+(n+1)≤_;omega
  exact .inr h2
theorem qkv:∀ (n:Nat) (o:List Bool),(rnds E n o).length=o.length
 | 0,_=>rfl
 | n+1,o=>(qkv n (rnd E o)).trans (qhP E o)
theorem qjS {nx:Nat→List Int} {s:Nat}:∀ (n:Nat) (o:List Bool),(∀ e∈E,e.2.2.toNat<o.length∧e.2.2∈nx e.1.toNat)→(∀ i,isOn o i→RT nx s i)→∀ i,isOn (rnds E n o) i→RT nx s i
 | 0,_,_,h=>h
 | n+1,o,hE,h=>qjS n (rnd E o) (fun e he=>by rw [qhP]; exact hE e he) (qla E o hE h)
include hE in
theorem qrm {s:Nat} (hs:s<S) (i:Nat):isOn (rnds E S ((List.replicate S false).set s true)) i↔RT (qeO E) s i:=by
 have hl:((List.replicate S false).set s true).length=S:=by simp
 have hm:∀ e∈E,e.2.2∈qeO E e.1.toNat:=fun e he=>by
  unfold qeO;refine List.mem_map.2 ⟨e,List.mem_filter.2 ⟨he,?_⟩,rfl⟩;have:=(hE e he).1;simp only [decide_eq_true_eq];omega
 have hT:∀ e∈E,e.2.2.toNat<S:=fun e he=>by
  have:=(hE e he).2;omega
 have hc0:((List.replicate S false).set s true).count false+1=S:=by
  have:(List.replicate S false).getD s true=false:=by
   rw [List.getD_eq_getElem?_getD,List.getElem?_replicate,if_pos hs];rfl
  have:=qdo this;rw [this];simp
 obtain ⟨h1,h2⟩:=qi8 hT S _ hl;have h2:=h2.resolve_left (by omega);constructor
 ·refine qjS S _ (fun e he=>⟨by rw [hl]; exact hT e he,hm e he⟩) (fun i hi=>?_) i
  rcases (qeZ (by simpa using hs)).1 hi with rfl | h
  ·exact .refl _
  exact (qeU h).elim
 intro h
 induction h with
 | refl=>exact h1 s ((qeZ (by simpa using hs)).2 (.inl rfl))
 | @tail a t _ ht ih =>
  unfold qeO at ht;obtain ⟨e,he,rfl⟩:=List.mem_map.1 ht;obtain ⟨he,hf⟩:=List.mem_filter.1 he;simp only [decide_eq_true_eq] at hf;refine h2 e he ?_;rw [show e.1.toNat=a by omega];exact ih
theorem qnN (hE:∀ e∈E,(0≤e.1∧e.1<(S:Int))∧(0≤e.2.2∧e.2.2<(S:Int))) {s:Nat} (hs:s<S):qcy (qeO E) S (List.replicate S false) s=rnds E S ((List.replicate S false).set s true):=by
 have hb:∀ i,i<S→∀ t∈qeO E i,0≤t∧t<(S:Int):=by
  intro i _ t ht;unfold qeO at ht;obtain ⟨e,he,rfl⟩:=List.mem_map.1 ht;exact (hE e (List.mem_filter.1 he).1).2
 refine qsx (by rw [qey,qkv]; simp) fun i _=>?_;rw [qiZ hb hs,qrm hE hs]
end
def rowR (g:qaa) (s:Nat):List Bool:=qcy (qeO g.2.2) g.2.1.toNat (List.replicate g.2.1.toNat false) s
def qcc (g:qaa) (n:Nat):List (List Bool):=(List.range n).map (rowR g)
def inC (g:qaa) (s t:Nat):Bool:=(rowR g s).getD t false && (rowR g t).getD s false
def lstB (g:qaa) (s n:Nat):List Int:=((List.range n).filter (inC g s)).map Int.ofNat
def qdK (g:qaa) (n:Nat):List (List Int):=((List.range n).filter fun s=>(lstB g s g.2.1.toNat).head? == some (s:Int)).map fun s=>lstB g s g.2.1.toNat
def qlJ (g:qaa):Prop:=(0≤g.2.1∧g.2.1≤1000)∧g.2.2.length≤100000∧∀ e∈g.2.2,(0≤e.1∧e.1<g.2.1)∧(0≤e.2.2∧e.2.2<g.2.1)
open Classical in
def qb6 (g:qaa):Option (List (List Int)):=if qlJ g then some (qdK g g.2.1.toNat) else none
theorem qmI (g:qaa) (s:Nat):(rowR g s).length=g.2.1.toNat:=by unfold rowR; rw [qey]; simp
theorem qot {g:qaa} (h:qlJ g) {s:Nat} (hs:s<g.2.1.toNat) (i:Nat):isOn (rowR g s) i↔RT (qeO g.2.2) s i:=by
 refine qiZ (fun j _ t ht=>?_) hs i;unfold qeO at ht;obtain ⟨e,he,rfl⟩:=List.mem_map.1 ht;have:=(h.2.2 e (List.mem_filter.1 he).1).2;omega
theorem qjm {g:qaa} (h:qlJ g) {s t:Nat} (hs:s<g.2.1.toNat) (ht:t<g.2.1.toNat):inC g s t=true↔RT (qeO g.2.2) s t∧RT (qeO g.2.2) t s:=by
 unfold inC;rw [Bool.and_eq_true,qhp,qhp,qot h hs,qot h ht]
theorem qjl (g:qaa) (s n:Nat):lstB g s (n+1)=if inC g s n=true then lstB g s n++[(n:Int)] else lstB g s n:=by
 unfold lstB;rw [List.range_succ,List.filter_append,List.map_append,List.filter_cons];split
 ·simp
 simp
theorem qrw {g:qaa} (h:qlJ g) {s:Nat} (hs:s<g.2.1.toNat):∃ x,(lstB g s g.2.1.toNat)[0]?=some x:=by
 have:(s:Int)∈lstB g s g.2.1.toNat:=List.mem_map.2 ⟨s,List.mem_filter.2 ⟨List.mem_range.2 hs,(qjm h hs hs).2 ⟨.refl s,.refl s⟩⟩,rfl⟩
 cases hl:lstB g s g.2.1.toNat with
 | nil=>rw [hl] at this; cases this
 | cons x l=>exact ⟨x,rfl⟩
theorem qkJ (g:qaa) (s n:Nat):(lstB g s n).length≤n:=by
 unfold lstB;rw [List.length_map];exact Nat.le_trans (List.length_filter_le _ _) (by simp)
theorem qhX (g:qaa) (n:Nat):qdK g (n+1)=if (lstB g n g.2.1.toNat).head?=some (n:Int) then qdK g n++[lstB g n g.2.1.toNat] else qdK g n:=by
 unfold qdK;rw [List.range_succ,List.filter_append,List.map_append,List.filter_cons];by_cases e:(lstB g n g.2.1.toNat).head?=some (n:Int)
 ·rw [if_pos e,if_pos (by rw [e]; simp)]
  simp
 rw [if_neg e,if_neg (by simpa using e)];simp
theorem qpe (g:qaa) {n m:Nat} (h:n≤m):∃ l,qdK g m=qdK g n++l:=by
 induction m with
 | zero =>
  obtain rfl:n=0:=by omega
  exact ⟨[],by simp⟩
 | succ m ih =>
  by_cases e:n=m+1
  ·subst e; exact ⟨[],by simp⟩
  obtain ⟨l,hl⟩:=ih (by omega);rw [qhX];split
  ·exact ⟨l++[lstB g m g.2.1.toNat],by rw [hl,List.append_assoc]⟩
  exact ⟨l,hl⟩
def qbH (p0:qaa):Option (Bool × Int) :=
 (qbE p0).bind fun x1 =>
 if x1≠0 then
  some (false,1)
 else
  lpO (loopW (S:=Int) (X:=Ou (Unit) (Bool × Int)) (fun a3 =>
      if a3<((p0.2.2).length:Int) then
       (idx p0.2.2 (IntKind.wrap .i64 (a3 - 1))).bind fun x70401 =>
       (idx p0.2.2 a3).bind fun x70901 =>
       jp (fun (a8:Bool) =>
         if a8=true then
          some (Stp.exit (Ou.ret (false,0)))
         else
          some (Stp.next (IntKind.wrap .i64 (a3+1))))
         fun k10 =>
        if x70401.1=x70901.1 then
         k10 (decide (x70401.2.1=x70901.2.1))
        else
         k10 false
      else
       some (Stp.exit (Ou.go ()))) 1) (fun a12 =>
      some (true,0)) some
def qbL (p0:List (Int)):Option (Bool) :=
 some true
def qdt (p0:qaa):Option ((List (List (Int))) × Int) :=
 (qbE p0).bind fun x1 =>
 if x1≠0 then
  some ([],1)
 else
  (qb6 p0).bind fun L5 =>
  lpO (forL (S:=(List (List (Int)))) (X:=Unit) (fun a7 (x9:(List (Int))) =>
      (qbL x9).bind fun x13 =>
      if x13=true then
       if fits 24 ((a7:List (List (Int))).length+([x9]).length) then
        some (Stp.next (a7++[x9]))
       else none
      else
       some (Stp.next a7)) L5 ([]:List (List (Int)))) (fun a17 =>
      some (a17,0)) fun a19 =>
      none
def qdm (p0:qaa):Option ((List (List (Int))) × Int) :=
 (qdt p0).bind fun x1 =>
 some (x1.1,x1.2)
def qbm (p0:qaa):Option (Bool × Int) :=
 (qdm p0).bind fun x1 =>
 jp (fun (a3:Bool) =>
   some (a3,x1.2))
   fun k5 =>
  if x1.2=0 then
   if ((x1.1).length:Int)=1 then
    k5 (decide (0<((p0.2.2).length:Int)))
   else
    k5 false
  else
   k5 false
def qcW (p0 : qaa) (p1:Int) (p2:Int) (p3:Int):Option (qaw × Int) :=
 (qbE p0).bind fun x3 =>
 if x3≠0 then
  some (([],[]),1)
 else
  if p0.1≠2 then
   some (([],[]),12)
  else
   (qbH p0).bind fun x5 =>
   (qbm p0).bind fun x7 =>
   jp (fun (a9 : Bool) =>
     if a9=true then
      some (([],[]),8)
     else
      jp (fun (a12:Bool) =>
        if a12=true then
         some (([],[]),2)
        else
         (qbt p0 p1).bind fun x15 =>
         if x15.2≠0 then
          some (([],[]),x15.2)
         else
          (qeA 2 p2).bind fun x17 =>
          if x17.2≠0 then
           some (([],[]),x17.2)
          else
           (qco x15.1 p0 x17.1).bind fun L22 =>
           lpO (forL (S:=(List (List UInt8))) (X:=(List (List UInt8))) (fun a24 (x26:(List UInt8)) =>
               if fits 16 ((a24:List (List UInt8)).length+([x26]).length) then
                if (((a24++[x26]).length:Nat):Int)=p3 then
                 some (Stp.exit (a24++[x26]))
                else
                 some (Stp.next (a24++[x26]))
               else none) L22 ([]:List (List UInt8))) (fun a32 =>
               some (([],[]),15)) fun a34 =>
               some ((a34,x17.1),0))
        fun k14 =>
       if p1<1 then
        k14 true
       else
        if 16<p1 then
         k14 true
        else
         if p2<0 then
          k14 true
         else
          if 8<p2 then
           k14 true
          else
           if p3<1 then
            k14 true
           else
            k14 (decide (256<p3)))
     fun k11 =>
    if x5.2≠0 then
     k11 true
    else
     if x7.2≠0 then
      k11 true
     else
      if (!x5.1)=true then
       k11 true
      else
       k11 (!x7.1)
def qcV (p0:qaa):Option (Bool × Int) :=
 (qa1 p0).bind fun x1 =>
 if x1≠0 then
  some (false,1)
 else
  lpO (loopW (S:=Int) (X:=Ou (Unit) (Bool × Int)) (fun a3 =>
      if a3<((p0.2.2).length:Int) then
       jp (fun (a7:Bool) =>
         if a7=true then
          some (Stp.exit (Ou.ret (false,0)))
         else
          some (Stp.next (IntKind.wrap .i64 (a3+1))))
         fun k9 =>
        (idx p0.2.2 a3).bind fun x10 =>
        (idx p0.2.2 (IntKind.wrap .i64 (a3 - 1))).bind fun x12 =>
        if x10.1=x12.1 then
         (idx p0.2.2 a3).bind fun x14 =>
         (idx p0.2.2 (IntKind.wrap .i64 (a3 - 1))).bind fun x16 =>
         k9 (decide (x14.2.1=x16.2.1))
        else
         k9 false
      else
       some (Stp.exit (Ou.go ()))) 1) (fun a19 =>
      some (true,0)) some
def qeI (p0 : qaa) (p1:Int):Option ((List (Bool))) :=
 if 0 ≤ (p0.2.1:Int)∧(p0.2.1:Int)≤p0.2.1∧(p0.2.1:Int)*1≤281474976710656 then
  (idx (List.replicate (p0.2.1).toNat (false:Bool)) p1).bind fun x3 =>
  (loopW (S := Int × (List Bool)) (X:=(List Bool)) (fun a5 =>
      if a5.1 < p0.2.1 then
       (loopW (S:=Int × (List Bool)) (X:=(List Bool)) (fun a9 =>
           if a9.1<((p0.2.2).length:Int) then
            jp (fun (a13:(List Bool)) =>
              some (Stp.next (IntKind.wrap .i64 (a9.1+1),a13)))
              fun k15 =>
             (idx p0.2.2 a9.1).bind fun x16 =>
             (idx a9.2 x16.1).bind fun x18 =>
             (idx a9.2 x16.1).bind fun x20 =>
             if x20=true then
              (idx p0.2.2 a9.1).bind fun x22 =>
              (idx a9.2 x22.2.2).bind fun x24 =>
              k15 ((a9.2).set (x22.2.2).toNat true)
             else
              k15 a9.2
           else
            some (Stp.exit a9.2)) (0,a5.2)).bind fun a26 =>
       some (Stp.next (IntKind.wrap .i64 (a5.1+1),a26))
      else
       some (Stp.exit a5.2)) (0,(List.replicate (p0.2.1).toNat (false:Bool)).set (p1).toNat true)).bind fun a28 =>
  some a28
 else none
def qgv (p0 : qaa) : Option ((List (List (Int))) × Int) :=
 (qa1 p0).bind fun x1 =>
 if x1≠0 then
  some ([],1)
 else
  (loopW (S:=Int × (List (List (Bool)))) (X:=(List (List (Bool)))) (fun a5 =>
      if a5.1<p0.2.1 then
       (qeI p0 a5.1).bind fun x9 =>
       if fits 24 ((a5.2:List (List (Bool))).length+([x9]).length) then
        some (Stp.next (IntKind.wrap .i64 (a5.1+1),a5.2++[x9]))
       else none
      else
       some (Stp.exit a5.2)) (0,[])).bind fun a13 =>
  (loopW (S := Int × (List (List (Int)))) (X:=(List (List (Int)))) (fun a16 =>
      if a16.1 < p0.2.1 then
       jp (fun (a20:(List (List (Int)))) =>
         some (Stp.next (IntKind.wrap .i64 (a16.1+1),a20)))
         fun k22 =>
        (loopW (S := Bool × Int × (List Int)) (X:=(List Int) × Bool) (fun a24 =>
            if a24.2.1<p0.2.1 then
             jp (fun (a28:Bool × (List Int)) =>
               some (Stp.next (a28.1,IntKind.wrap .i64 (a24.2.1+1),a28.2)))
               fun k30 =>
              jp (fun (a31:Bool) =>
                if a31=true then
                 if fits 8 ((a24.2.2:List Int).length+([a24.2.1]).length) then
                  if a24.1=true then
                   k30 (decide (a16.1≤a24.2.1),a24.2.2++[a24.2.1])
                  else
                   k30 (false,a24.2.2++[a24.2.1])
                 else none
                else
                 k30 (a24.1,a24.2.2))
                fun k33 =>
               (idx a13 a16.1).bind fun x37 =>
               (idx a13 a16.1).bind fun x39 =>
               (idx x39 a24.2.1).bind fun x41 =>
               if x41=true then
                (idx a13 a24.2.1).bind fun x43 =>
                (idx a13 a24.2.1).bind fun x45 =>
                (idx x45 a16.1).bind fun x47 =>
                k33 x47
               else
                k33 false
            else
             some (Stp.exit (a24.2.2,a24.1))) (true,0,[])).bind fun a50 =>
        if a50.2=true then
         if fits 24 ((a16.2:List (List (Int))).length+([a50.1]).length) then
          k22 (a16.2++[a50.1])
         else none
        else
         k22 a16.2
      else
       some (Stp.exit a16.2)) (0,[])).bind fun a54 =>
  some (a54,0)
def qfx (p0:List (Int)) (p1:Int):Option (Bool) :=
 lpO (loopW (S:=Int) (X:=Ou (Unit) (Bool)) (fun a1 =>
     if a1<((p0).length:Int) then
      (idx p0 a1).bind fun x5 =>
      if x5=p1 then
       some (Stp.exit (Ou.ret true))
      else
       some (Stp.next (IntKind.wrap .i64 (a1+1)))
     else
      some (Stp.exit (Ou.go ()))) 0) (fun a7 =>
     some false) some
def qe6 (p0 : qaa):Option ((List (List (Int))) × Int) :=
 (qgv p0).bind fun x1 =>
 (loopW (S := Int × (List (List (Int)))) (X:=(List (List (Int)))) (fun a4 =>
     if a4.1 < ((x1.1).length:Int) then
      jp (fun (a8:(List (List (Int)))) =>
        some (Stp.next (IntKind.wrap .i64 (a4.1+1),a8)))
        fun k10 =>
       (loopW (S:=Bool × Int) (X:=Bool) (fun a11 =>
           if a11.2<((p0.2.2).length:Int) then
            jp (fun (a15:Bool) =>
              some (Stp.next (a15,IntKind.wrap .i64 (a11.2+1))))
              fun k17 =>
             if a11.1=true then
              k17 true
             else
              (idx x1.1 a4.1).bind fun x18 =>
              (idx p0.2.2 a11.2).bind fun x20 =>
              (qfx x18 x20.1).bind fun x22 =>
              if x22=true then
               (idx x1.1 a4.1).bind fun x24 =>
               (idx p0.2.2 a11.2).bind fun x26 =>
               (qfx x24 x26.2.2).bind fun x28 =>
               k17 x28
              else
               k17 false
           else
            some (Stp.exit a11.1)) (false,0)).bind fun a32 =>
       if a32=true then
        (idx x1.1 a4.1).bind fun x34 =>
        if fits 24 ((a4.2:List (List (Int))).length+([x34]).length) then
         k10 (a4.2++[x34])
        else none
       else
        k10 a4.2
     else
      some (Stp.exit a4.2)) (0,[])).bind fun a38 =>
 some (a38,x1.2)
def qdy (p0:qaa):Option (Bool × Int) :=
 (qgv p0).bind fun x1 =>
 (qe6 p0).bind fun x3 =>
 jp (fun (a5:Bool) =>
   some (a5,x1.2))
   fun k7 =>
  if x1.2=0 then
   if ((x1.1).length:Int)=1 then
    k7 (decide (((x3.1).length:Int)=1))
   else
    k7 false
  else
   k7 false
def qfz (p0 : Int) (p1 : Int):Option ((List (List UInt8)) × Int) :=
 jp (fun (a1 : Bool) =>
   if a1=true then
    some ([],12)
   else
    if p1<0 then
     some ([],2)
    else
     if 65536<p1 then
      some ([],4)
     else
      lpO (loopW (S := (List (List UInt8)) × Int) (X:=Ou ((List (List UInt8))) ((List (List UInt8)) × Int)) (fun a4 =>
          if a4.2 < p1 then
           if 4096<(IntKind.wrap .i64 (((a4.1).length:Int)*p0)) then
            some (Stp.exit (Ou.ret ([],4)))
           else
            (loopW (S := Int × (List (List UInt8))) (X:=(List (List UInt8))) (fun a9 =>
                if a9.1 < ((a4.1).length:Int) then
                 (loopW (S:=Int × (List (List UInt8))) (X:=(List (List UInt8))) (fun a13 =>
                     if a13.1<p0 then
                      (idx a4.1 a9.1).bind fun x17 =>
                      if 0≤(a13.1:Int)∧(a13.1:Int)≤IntKind.wrap .i64 (a13.1+1)∧IntKind.wrap .i64 (a13.1+1)≤(([48,49,50,51,52,53,54,55,56,57,97,98,99,100,101,102]:List UInt8).length:Int) then
                       if x17.length+((([48,49,50,51,52,53,54,55,56,57,97,98,99,100,101,102]:List UInt8).take (IntKind.wrap .i64 (a13.1+1)).toNat).drop (a13.1).toNat).length≤maxLen then
                        if fits 16 ((a13.2:List (List UInt8)).length+([x17++((([48,49,50,51,52,53,54,55,56,57,97,98,99,100,101,102]:List UInt8).take (IntKind.wrap .i64 (a13.1+1)).toNat).drop (a13.1).toNat)]).length) then
                         some (Stp.next (IntKind.wrap .i64 (a13.1+1),a13.2++[x17++((([48,49,50,51,52,53,54,55,56,57,97,98,99,100,101,102]:List UInt8).take (IntKind.wrap .i64 (a13.1+1)).toNat).drop (a13.1).toNat)]))
                        else none
                       else none
                      else none
                     else
                      some (Stp.exit a13.2)) (0,a9.2)).bind fun a23 =>
                 some (Stp.next (IntKind.wrap .i64 (a9.1+1),a23))
                else
                 some (Stp.exit a9.2)) (0,[])).bind fun a25 =>
            some (Stp.next (a25,IntKind.wrap .i64 (a4.2+1)))
          else
           some (Stp.exit (Ou.go a4.1))) ([([]:List UInt8)],0)) (fun a27 =>
          some (a27,0)) some)
   fun k3 =>
  if p0<1 then
   k3 true
  else
   k3 (decide (16<p0))
def qhh (p0 : qaa) (p1 : Int) (p2:Int) (p3:Int):Option (qaw × Int) :=
 (qa1 p0).bind fun x2 =>
 if x2≠0 then
  some (([],[]),1)
 else
  if p0.1≠2 then
   some (([],[]),12)
  else
   (qcV p0).bind fun x4 =>
   (qdy p0).bind fun x6 =>
   jp (fun (a8 : Bool) =>
     if a8=true then
      some (([],[]),8)
     else
      jp (fun (a11 : Bool) =>
        if a11=true then
         some (([],[]),2)
        else
         (qer p0 p1).bind fun x14 =>
         if x14.2≠0 then
          some (([],[]),x14.2)
         else
          (qfz 2 p2).bind fun x17 =>
          (loopW (S := Int × (List (List UInt8))) (X:=(List (List UInt8))) (fun a19 =>
              jp (fun (a23:Bool) =>
                if a23 = true then
                 jp (fun (a26:(List (List UInt8))) =>
                   some (Stp.next (IntKind.wrap .i64 (a19.1+1),a26)))
                   fun k28 =>
                  (idx x14.1 a19.1).bind fun x29 =>
                  (idx x14.1 a19.1).bind fun x31 =>
                  (qbS x17.1 p0 x29 x31).bind fun x33 =>
                  (loopW (S:=Bool × Int) (X:=Bool) (fun a35 =>
                      if a35.2<(((a19.2).length:Nat):Int) then
                       jp (fun (a39:Bool) =>
                         some (Stp.next (a39,IntKind.wrap .i64 (a35.2+1))))
                         fun k41 =>
                        if a35.1=true then
                         (idx x14.1 a19.1).bind fun x42 =>
                         (idx a19.2 a35.2).bind fun x44 =>
                         (idx a19.2 a35.2).bind fun x46 =>
                         (qbS x17.1 p0 x42 x46).bind fun x48 =>
                         if x48=true then
                          (idx a19.2 a35.2).bind fun x50 =>
                          (idx a19.2 a35.2).bind fun x52 =>
                          (idx x14.1 a19.1).bind fun x54 =>
                          (qbS x17.1 p0 x52 x54).bind fun x56 =>
                          k41 x56
                         else
                          k41 false
                        else
                         k41 false
                      else
                       some (Stp.exit a35.1)) (x33,0)).bind fun a60 =>
                  if a60=true then
                   (idx x14.1 a19.1).bind fun x62 =>
                   if fits 16 ((a19.2:List (List UInt8)).length+([x62]).length) then
                    k28 (a19.2++[x62])
                   else none
                  else
                   k28 a19.2
                else
                 some (Stp.exit a19.2))
                fun k25 =>
               if a19.1<((x14.1).length:Int) then
                k25 (decide ((((a19.2).length:Nat):Int)<p3))
               else
                k25 false) (0,([]:List (List UInt8)))).bind fun a68 =>
          if (((a68).length:Nat):Int)<p3 then
           some (([],[]),15)
          else
           some ((a68,x17.1),0))
        fun k13 =>
       if p1<1 then
        k13 true
       else
        if 16<p1 then
         k13 true
        else
         if p2<0 then
          k13 true
         else
          if 8<p2 then
           k13 true
          else
           if p3<1 then
            k13 true
           else
            k13 (decide (256<p3)))
     fun k10 =>
    if (!x4.1)=true then
     k10 true
    else
     k10 (!x6.1)
open Go.Proofs
set_option maxHeartbeats 1600000
set_option maxRecDepth 100000
def valD (fp:HV) (E:List qaq) (a:Int) (x y:qaq):Nat→HV
  | 0 | 6=>HV.fptr (match fp with | .fptr cs _=>cs | _=>[]) 2
  | 1 | 7=>slE eFromLabelTo E
  | 2 | 8=>hI a
  | 3=>hI (IntKind.wrap .i64 (a - 1))
  | 4=>HV.fptr (eFromLabelTo.E E) ((IntKind.wrap .i64 (a - 1)).toNat*3)
  | 5=>HV.agg [hI x.1,hI x.2.1,hI x.2.2]
  | 9=>HV.fptr (eFromLabelTo.E E) (a.toNat*3)
  | _=>HV.agg [hI y.1,hI y.2.1,hI y.2.2]
abbrev zD:List HV:=[hI 0,hI 0,hI 0]
structure InvD (fp:HV) (a:Int) (val:Nat→HV) (a5 a6 te:Nat) (c7:List HV) (L:List Nat) (s:AS):Prop where
  s1:sget s.slots 1=some fp
  s4:sget s.slots 4=some (hI a)
  val:∀ k∈L,k<11→sget s.slots (17+k)=some (val k)
  o5:11∈L→∃ v,sget s.slots 5=some (HV.ptr a5 v 0)∧hget s.heap a5=some (v,.arr 3 te (if 13∈L then c7 else zD))
  o6:12∈L→∃ v,sget s.slots 6=some (HV.ptr a6 v 0)∧hget s.heap a6=some (v,.arr 3 te zD)
  d5:13∈L→11∈L
section
variable {fp:HV} {a:Int} {val:Nat→HV} {a5 a6 te:Nat} {c7:List HV} {L:List Nat} {sl:List (Nat × HV)} {H:Heap}
theorem qeV {i j:Nat} (h:i∈j::L) (hne:i≠j):i∈L:=(List.mem_cons.1 h).resolve_left hne
theorem qdY {i j:Nat} {v:HV} (h:i≠j):sget ((j,v)::sl) i=sget sl i:=by simp only [sget]; rw [if_neg h]
theorem ql5 {j:Nat} {v:HV}:sget ((j,v)::sl) j=some v:=by simp only [sget,if_true]
theorem InvD.put (h:InvD fp a val a5 a6 te c7 L ⟨sl,H⟩) {i:Nat} (hi:i<11) {hv:HV} (hv':val i=hv):InvD fp a val a5 a6 te c7 (i::L) ⟨(17+i,hv)::sl,H⟩ where
  s1:=(qdY (by omega)).trans h.s1
  s4:=(qdY (by omega)).trans h.s4
  val:=fun k hk hlt=>by
    show sget ((17+i,hv)::sl) (17+k)=_;by_cases e:k=i
    · subst e; rw [ql5,hv']
    exact (qdY (by omega)).trans (h.val k (qeV hk e) hlt)
  o5:=fun hm=>by
    obtain ⟨v,h1,h2⟩:=h.o5 (qeV hm (by omega));refine ⟨v,(qdY (by omega)).trans h1,h2.trans ?_⟩;have:(13∈i::L)↔13∈L:=⟨fun h=>qeV h (by omega),List.mem_cons_of_mem _⟩;simp only [this]
  o6:=fun hm=>by
    obtain ⟨v,h1,h2⟩:=h.o6 (qeV hm (by omega));exact ⟨v,(qdY (by omega)).trans h1,h2⟩
  d5:=fun hm=>List.mem_cons_of_mem _ (h.d5 (qeV hm (by omega)))
theorem InvD.al5 (h:InvD fp a val a5 a6 te c7 L ⟨sl,H⟩) (hq:11 ∉ L) (hne:a6≠a5) (v:Nat):InvD fp a val a5 a6 te c7 (11::L) ⟨(5,.ptr a5 v 0)::sl,(a5,v,.arr 3 te zD)::H⟩ where
  s1:=(qdY (by decide)).trans h.s1
  s4:=(qdY (by decide)).trans h.s4
  val:=fun k hk hlt=>(qdY (by omega)).trans (h.val k (qeV hk (by omega)) hlt)
  o5:=fun _=>⟨v,ql5,by
    have:¬ 13∈11::L:=fun hm=>hq (h.d5 (qeV hm (by decide)));rw [if_neg this]
    exact qa6⟩
  o6:=fun hm=>by
    obtain ⟨v',h1,h2⟩:=h.o6 (qeV hm (by decide));exact ⟨v',(qdY (by decide)).trans h1,(qaD hne).trans h2⟩
  d5:=fun _=>List.mem_cons_self ..
theorem InvD.al6 (h:InvD fp a val a5 a6 te c7 L ⟨sl,H⟩) (hq:12 ∉ L) (hne:a5≠a6) (v:Nat):InvD fp a val a5 a6 te c7 (12::L) ⟨(6,.ptr a6 v 0)::sl,(a6,v,.arr 3 te zD)::H⟩ where
  s1:=(qdY (by decide)).trans h.s1
  s4:=(qdY (by decide)).trans h.s4
  val:=fun k hk hlt=>(qdY (by omega)).trans (h.val k (qeV hk (by omega)) hlt)
  o5:=fun hm=>by
    obtain ⟨v',h1,h2⟩:=h.o5 (qeV hm (by decide));refine ⟨v',(qdY (by decide)).trans h1,((qaD hne).trans h2).trans ?_⟩;have:(13∈12::L)↔13∈L:=⟨fun h=>qeV h (by decide),List.mem_cons_of_mem _⟩;simp only [this]
  o6:=fun _=>⟨v,ql5,qa6⟩
  d5:=fun hm=>List.mem_cons_of_mem _ (h.d5 (qeV hm (by decide)))
theorem InvD.st5 (h:InvD fp a val a5 a6 te c7 L ⟨sl,H⟩) (hq:11∈L) {v:Nat} (hs:sget sl 5=some (HV.ptr a5 v 0)) (hne:a6≠a5):InvD fp a val a5 a6 te c7 (13::L) ⟨sl,(a5,v,.arr 3 te c7)::H⟩ where
  s1:=h.s1
  s4:=h.s4
  val:=fun k hk hlt=>h.val k (qeV hk (by omega)) hlt
  o5:=fun _=>⟨v,hs,by rw [if_pos (List.mem_cons_self ..)]; exact qa6⟩
  o6:=fun hm=>by
    obtain ⟨v',h1,h2⟩:=h.o6 (qeV hm (by decide));exact ⟨v',h1,(qaD hne).trans h2⟩
  d5:=fun _=>List.mem_cons_of_mem _ hq
end
theorem qf2 {p0:qaa} {r:Bool × Int} (h:qbH p0=some r):Pure Tryz.prog 36 [gA p0] (· = HV.tup [.bool r.1,hI r.2]):=by
 unfold qbH at h;refine zaj Tryz.func36 rfl rfl (lb rfl) fun hf=>?_;unfold Tryz.f36;dsimp only [qaL,Nat.reduceAdd];refine zaa rfl fun K hK=>b_op rfl (qbh rfl rfl rfl ?_);refine mv rfl rfl (mv rfl rfl ?_);refine bf hK ⟨[(1,gF p0)],[]⟩ ?_;refine zad ?_;refine zaa rfl fun K hK=>bv rfl (qad ty27 rfl (qao rfl (lb rfl) rfl)) ?_;obtain ⟨x1,h2,h⟩:=bS h;refine b_op rfl (qat rfl rfl rfl rfl (zai (qc0 h2)) ?_);refine bv rfl (qag rfl rfl qcv) ?_;refine bf hK ⟨[(1,gF p0),(9,.bool (decide (x1≠0)))],[]⟩ ?_;refine zae rfl (fun hc=>?_) (fun hc=>?_)
 ·obtain ⟨hc,h⟩:=cT hc h
  refine zaa rfl fun K hK=>mv rfl rfl (mv rfl rfl ?_);refine bf hK ⟨[(2,.bool false),(3,hI 1)],[]⟩ ?_;obtain rfl:=oi h;exact AW.ret (qae (.inr rfl) (resT rfl (resT rfl rfl)) rfl ⟨trivial,trivial,trivial⟩)
 obtain ⟨hc,h⟩:=cF hc h;refine zac ?_;refine zad ?_;refine zaa rfl fun K hK=>mv rfl rfl ?_;refine bf hK ⟨[(1,gF p0),(4,hI 1)],[]⟩ ?_;refine AW.lpR h (by first | exact qa8 | exact qc3) (S:=Int) (V:=Unit) (fun a v=>⟨[(1,gF p0),(4,hI a)],[]⟩) ?_ (X:=Unit) (W:=Unit) (fun a v=>⟨[],[]⟩) (fun a17 w18 h=>?_) (fun a3 w4 st5 h hr6=> ?_)
 ·exact to_L ⟨(),rfl⟩
 ·refine zaa rfl fun K hK=>mv rfl rfl (mv rfl rfl ?_)
  refine bf hK ⟨[(2,.bool true),(3,hI 0)],[]⟩ ?_;obtain rfl:=oi h;exact AW.ret (qae (.inr rfl) (resT rfl (resT rfl rfl)) rfl ⟨trivial,trivial,trivial⟩)
 refine zad ?_;refine zaa rfl fun K hK=>mv rfl rfl (bv rfl (qac qea rfl) (bv rfl (qad ty25 rfl (qaj rfl rfl)) (bv rfl (qav rfl rfl ty25 rfl) (bv rfl (qag rfl rfl qaF) ?_))));refine bf hK ⟨[(1,gF p0),(4,hI a3),(14,.bool (decide (a3<((p0.2.2).length:Int))))],[]⟩ ?_;refine zae rfl (fun hc=>?_) (fun hc=>?_)
 ·obtain ⟨hc,h⟩:=cT hc h
  refine zac ?_;refine zad (zaf ?_);obtain ⟨x7,h8,h⟩:=bS h;obtain ⟨x9,h10,h⟩:=bS h;refine zaQ follows fun K hK F hFF=>?_;refine qrC (F:=F) hFF rfl 14 (by decide) rfl (fun L s=>InvD (gF p0) a3 (valD (gF p0) p0.2.2 a3 x7 x9) 36005 36006 35 [hI x7.1,hI x7.2.1,hI x7.2.2] L s) ?stp ?fin 14 [] _ ⟨rfl,rfl,(fun _ h=>by cases h),(fun h=>by cases h),(fun h=>by cases h),(fun h=>by cases h)⟩ (fun k hk=>by cases hk) List.nodup_nil rfl
  case stp =>
   rintro L ⟨sl,H⟩ q hJ hq hqL hdeps
   have h1:=hJ.s1;have h4:=hJ.s4;have val:=hJ.val
   match q,hq with
   | 0,_=>exact l_op rfl rfl rfl (qai rfl (qac qea h1) (qab (hJ.put (by decide) rfl)))
   | 1,_=>exact l_op rfl rfl rfl (qai rfl (qad ty25 (val 0 (hdeps 0 (by decide)) (by decide)) (qaj rfl rfl)) (qab (hJ.put (by decide) rfl)))
   | 2,_=>exact l_op rfl rfl rfl (qai rfl (qaE rfl (show (⟨sl,_⟩:AS).ev (.tmp 4)=_ from h4)).2 (qab (hJ.put (by decide) rfl)))
   | 3,_=>exact l_op rfl rfl rfl (qai rfl (qag (val 2 (hdeps 2 (by decide)) (by decide)) rfl qfX) (qab (hJ.put (by decide) rfl)))
   | 4,_=>exact l_op rfl rfl rfl (qai rfl (qaI ty25 es25 (val 1 (hdeps 1 (by decide)) (by decide)) (val 3 (hdeps 3 (by decide)) (by decide)) (qay h8)) (qab (hJ.put (by decide) rfl)))
   | 5,_=>exact l_op rfl rfl rfl (qai rfl (qad ty35 (val 4 (hdeps 4 (by decide)) (by decide)) (qgg eFromLabelTo h8 rfl rfl)) (qab (hJ.put (by decide) rfl)))
   | 6,_=>exact l_op rfl rfl rfl (qai rfl (qac qea h1) (qab (hJ.put (by decide) rfl)))
   | 7,_=>exact l_op rfl rfl rfl (qai rfl (qad ty25 (val 6 (hdeps 6 (by decide)) (by decide)) (qaj rfl rfl)) (qab (hJ.put (by decide) rfl)))
   | 8,_=>exact l_op rfl rfl rfl (qai rfl (qaE rfl (show (⟨sl,_⟩:AS).ev (.tmp 4)=_ from h4)).2 (qab (hJ.put (by decide) rfl)))
   | 9,_=>exact l_op rfl rfl rfl (qai rfl (qaI ty25 es25 (val 7 (hdeps 7 (by decide)) (by decide)) (val 8 (hdeps 8 (by decide)) (by decide)) (qay h10)) (qab (hJ.put (by decide) rfl)))
   | 10,_=>exact l_op rfl rfl rfl (qai rfl (qad ty35 (val 9 (hdeps 9 (by decide)) (by decide)) (qgg eFromLabelTo h10 rfl rfl)) (qab (hJ.put (by decide) rfl)))
   | 11,_=>exact l_op rfl rfl rfl (qaC (fid:=36) (zs:=[hI 0,hI 0,hI 0]) 36005 rfl rfl ty35 rfl (fun v=>qab (hJ.al5 hqL (by decide) v)))
   | 12,_=>exact l_op rfl rfl rfl (qaC (fid:=36) (zs:=[hI 0,hI 0,hI 0]) 36006 rfl rfl ty35 rfl (fun v=>qab (hJ.al6 hqL (by decide) v)))
   | 13,_ =>
    obtain ⟨v5,s5,g5⟩:=hJ.o5 (hdeps 11 (by decide));rw [if_neg hqL] at g5;exact l_op rfl rfl rfl (qax (cs:=[hI x7.1,hI x7.2.1,hI x7.2.2]) (zs:=[hI x7.1,hI x7.2.1,hI x7.2.2]) rfl s5 (val 5 (hdeps 5 (by decide)) (by decide)) ty35 rfl g5 rfl rfl rfl (qab (hJ.st5 (hdeps 11 (by decide)) s5 (by decide))))
   | n+14,h=>exact absurd h (by omega)
  rintro L ⟨sl,H⟩ hJ hall
  have hin:∀ q,q<14→q∈L:=fun q hq=>(hall q).1 hq;obtain ⟨v11,s5,g5⟩:=hJ.o5 (hin 11 (by decide));obtain ⟨v12,s6,g6⟩:=hJ.o6 (hin 12 (by decide));rw [if_pos (hin 13 (by decide))] at g5;refine l_go (L':=List.range 14) (s':=⟨[(1,(gF p0)),(4,hI a3),(5,.ptr 36005 v11 0),(6,.ptr 36006 v12 0),(27,.agg [hI x9.1,hI x9.2.1,hI x9.2.2])],[(36005,v11,.arr 3 35 [hI x7.1,hI x7.2.1,hI x7.2.2]),(36006,v12,.arr 3 35 [hI 0,hI 0,hI 0])]⟩) hFF (qpu hall) ?_ ⟨qaP ⟨hJ.s1,hJ.s4,s5,s6,hJ.val 10 (hin 10 (by decide)) (by decide),trivial⟩,qcF ⟨g5,g6,trivial⟩⟩;clear g5 g6 s5 s6 hin hall hJ H sl L;refine qaT hFF rfl [14] rfl rfl ⟨?_,trivial⟩;refine l_op rfl rfl rfl (qax (cs:=[hI x9.1,hI x9.2.1,hI x9.2.2]) (zs:=[hI x9.1,hI x9.2.1,hI x9.2.2]) rfl rfl rfl ty35 rfl rfl rfl rfl rfl (qab ?_));refine l_go (L':=List.range 15) (s':=⟨[(1,gF p0),(4,hI a3),(5,.ptr 36005 v11 0),(6,.ptr 36006 v12 0)],[(36005,v11,.arr 3 35 [hI x7.1,hI x7.2.1,hI x7.2.2]),(36006,v12,.arr 3 35 [hI x9.1,hI x9.2.1,hI x9.2.2])]⟩) hFF rfl ?_ ⟨qaP ⟨rfl,rfl,rfl,rfl,trivial⟩,qcF ⟨rfl,rfl,trivial⟩⟩;refine qig hFF rfl rfl (hK _ ?_);clear hFF F;refine zag h (S:=Bool) (V:=Unit) (fun a v=>⟨[(1,gF p0),(4,hI a3),(39,.bool a)],[]⟩) (fun a13 w14 h=>?_) (fun k15 h=>?_)
  ·refine zae rfl (fun hc=>?_) (fun hc=>?_)
   ·have h:=ifT hc h
    refine zaa rfl fun K hK=>mv rfl rfl (mv rfl rfl ?_);refine bf hK ⟨[(2,.bool false),(3,hI 0)],[]⟩ ?_;have h:=hr6 _ h;obtain rfl:=oi h;exact AW.ret (qae (.inr rfl) (resT rfl (resT rfl rfl)) rfl ⟨trivial,trivial,trivial⟩)
   have h:=ifF (bF' hc) h;refine zac ?_;refine zab rfl fun K hK=>mv rfl rfl (bv rfl (qag rfl rfl qaX) (mv rfl rfl ?_));refine qab (hK _ ?_);exact to_L ⟨IntKind.wrap .i64 (a3+1),(),h,rfl⟩
  refine zab rfl fun K hK=>bv rfl (qal qii rfl rfl) (bv rfl (qaf ty3 rfl rfl (qaj rfl rfl)) (bv rfl (qal qii rfl rfl) (bv rfl (qaf ty3 rfl rfl (qaj rfl rfl)) (bv rfl (qag rfl rfl qdT) (mv rfl rfl ?_)))));by_cases hg16:x7.1=x9.1
  ·have h:=ifT hg16 h
   refine b_T rfl rfl rfl rfl (decide_eq_true hg16) (qai rfl (qal qj9 rfl rfl) ?_);refine b_T rfl rfl rfl rfl rfl (qai rfl (qaf ty3 rfl rfl (qaj rfl rfl)) ?_);refine b_T rfl rfl rfl rfl rfl (qai rfl (qal qj9 rfl rfl) ?_);refine b_T rfl rfl rfl rfl rfl (qai rfl (qaf ty3 rfl rfl (qaj rfl rfl)) ?_);refine b_T rfl rfl rfl rfl rfl (qai rfl (qag rfl rfl qdT) ?_);refine bv rfl (qan rfl rfl rfl) ?_;refine qab (hK _ ?_);exact to_L ⟨decide (x7.2.1=x9.2.1),(),h,rfl⟩
  have h:=ifF hg16 h;refine b_F rfl rfl rfl rfl rfl (decide_eq_false hg16) ?_
  iterate 4 refine b_F rfl rfl rfl rfl rfl rfl ?_
  refine bv rfl (qau rfl rfl rfl) ?_;refine qab (hK _ ?_);exact to_L ⟨false,(),h,rfl⟩
 obtain ⟨hc,h⟩:=cF hc h;refine AW.exit ?_;exact to_L ⟨(),(),h,rfl⟩
abbrev hR (v8 v36 v5 v12 v9 Sn:Nat) (seen:List Bool) (rs:Rws):Heap:=(136008,v8,.arr 1 186 [.ar 136036 v36 1 0 Sn])::(136036,v36,.arr 1 4 (eBool.E seen))::(136005,v5,.arr 1 121 [.ar 136012 v12 1 0 Sn])::(136012,v12,.arr 1 36 (hdr 0 rs))::(136009,v9,.arr 1 83 [.fn (.func 153) [] [.ptr 136008 v8 0,.ptr 136005 v5 0,.ptr 136009 v9 0]])::qfg 0 rs
theorem qqV {v8 v36 v5 v12 v9 Sn:Nat} {seen:List Bool} {rs:Rws} (i:Nat):hget (hR v8 v36 v5 v12 v9 Sn seen rs) (rid i)=hget (qfg 0 rs) (rid i):=by
  rw [qaD (by unfold rid; omega),qaD (by unfold rid; omega),qaD (by unfold rid; omega),qaD (by unfold rid; omega),qaD (by unfold rid; omega)]
theorem qsp {v8 v36 v5 v12 v9 Sn:Nat} {seen seen':List Bool} {rs:Rws}:∀ id x,hget (hR v8 v36 v5 v12 v9 Sn seen' rs) id=some x→hget ((136036,v36,.arr 1 4 (eBool.E seen'))::hR v8 v36 v5 v12 v9 Sn seen rs) id=some x:=by
  refine qcF ⟨rfl,rfl,rfl,rfl,rfl,qfC _ 0 fun i v' l' hi=>?_⟩;rw [qaD (by unfold rid; omega),Nat.zero_add,qqV];have:=qdn 0 hi
  rwa [Nat.zero_add] at this
set_option maxHeartbeats 4000000 in
set_option maxRecDepth 100000 in
theorem qjM {v8 v36 v5 v12 v9 Sn:Nat} {rs:Rws} {nx:Nat→List Int} (hrs:rs.length=Sn) (hnx:∀ (i v:Nat) (l:List Int),rs[i]?=some (v,l)→l=nx i) (hb:∀ i,i<Sn→∀ t∈nx i,0≤t∧t<(Sn:Int)) (hl:∀ i,i<Sn→(nx i).length≤100000) (hS:Sn≤1000) :
    ∀ (n:Nat) (seen:List Bool) (s:Nat),seen.length=Sn→s<Sn→seen.getD s true=false→seen.count false≤n →
      ACall Tryz.prog 153 [hI (s:Int),.ptr 136008 v8 0,.ptr 136005 v5 0,.ptr 136009 v9 0] (hR v8 v36 v5 v12 v9 Sn seen rs) (fun r H'=>r=HV.tup []∧H'=hR v8 v36 v5 v12 v9 Sn (qcy nx n seen s) rs)
  | 0,seen,s,h1,h2,h3,h4=>by
    have:=qdo h3;omega
  | n + 1,seen,s,h1,h2,h3,h4=>by
    refine ACall.of_body Tryz.func153 rfl rfl (lb rfl) ?_;unfold Tryz.f153;dsimp only [qaL,Nat.reduceAdd]
    have hfl:s<rs.length:=by omega
    obtain ⟨⟨rv,rl⟩,hrow⟩:∃ b,rs[s]?=some b:=⟨_,List.getElem?_eq_getElem hfl⟩;have hrl:=hnx _ _ _ hrow
    have hll:rl.length≤100000:=by rw [hrl]; exact hl s h2
    have hhd:(hdr 0 rs)[(s:Int).toNat*1]?=some (HV.ar (rid s) rv 1 0 rl.length):=by
      have:=qmp 0 hrow;rw [Nat.zero_add] at this;rw [Nat.mul_one];exact this
    have hrg:∀ sn:List Bool,hget (hR v8 v36 v5 v12 v9 Sn sn rs) (rid s)=some (rv,.arr 1 3 (eInt.E rl)):=fun sn=>by
      rw [qqV];have:=qdn 0 hrow
      rwa [Nat.zero_add] at this
    refine zaa rfl fun K hK=>bv rfl (qaf qgZ rfl rfl (qaj rfl rfl)) (mv rfl rfl (bv rfl (qgO qgZ qqp rfl rfl ⟨by omega,by omega⟩ rfl) ?_));refine b_op rfl (qiL eBool (l:=seen) (j:=(s:Int)) (v:=true) rfl rfl rfl ty4 rfl rfl rfl ⟨by omega,by omega⟩ ?_);refine qab (hK _ (AW.to (qaZ (s':=⟨[(0,hI (s:Int)),(1,.ptr 136008 v8 0),(2,.ptr 136005 v5 0),(3,.ptr 136009 v9 0)],hR v8 v36 v5 v12 v9 Sn (seen.set s true) rs⟩) ⟨qaP ⟨rfl,rfl,rfl,rfl,trivial⟩,qsp⟩ ?_)));refine zaa rfl fun K hK=>bv rfl (qaf qfU rfl rfl (qaj rfl rfl)) (mv rfl rfl (bv rfl (qgO qfU qrJ rfl rfl ⟨by omega,by omega⟩ rfl) (bv rfl (qaf ty36 rfl rfl (qaj rfl hhd)) (bv rfl (qeS rfl rfl ty36 rfl (hrg _)) (mv rfl rfl ?_)))));refine qab (hK _ (AW.to (qaZ (s':=⟨[(1,.ptr 136008 v8 0),(2,.ptr 136005 v5 0),(3,.ptr 136009 v9 0),(13,.ar (rid s) rv 1 0 rl.length),(14,hI (rl.length:Int)),(15,hI 0)],hR v8 v36 v5 v12 v9 Sn (qfV nx n seen s 0) rs⟩) ⟨qaP ⟨rfl,rfl,rfl,rfl,rfl,rfl,trivial⟩,fun _ _ h=>h⟩ ?_)));refine zaf ?_
    refine AW.loopS (fun i:Nat=>⟨[(1,.ptr 136008 v8 0),(2,.ptr 136005 v5 0),(3,.ptr 136009 v9 0),(13,.ar (rid s) rv 1 0 rl.length),(14,hI (rl.length:Int)),(15,hI (i:Int))],hR v8 v36 v5 v12 v9 Sn (qfV nx n seen s i) rs⟩)
      (fun i=>i≤rl.length) (fun i=>rl.length - i) 0 (AS.le_refl _) (Nat.zero_le _) ?_
    intro i hi;have hsl:=qor nx n seen s i;have hsc:=ql6 (nx:=nx) (i:=i) h3 h4
    have hsk:∀ (h:i<rl.length),qfV nx n seen s (i+1)=if (qfV nx n seen s i).getD rl[i].toNat true=true then qfV nx n seen s i else qcy nx n (qfV nx n seen s i) rl[i].toNat:=by
      subst hrl;exact fun h=>qnH nx n seen s h
    have hbt:∀ t∈rl,0≤t∧t<(Sn:Int):=by
      rw [hrl]; exact hb s h2
    have hfin:i=rl.length→qfV nx n seen s i=qcy nx (n+1) seen s:=by
      rintro rfl
      rw [hrl];unfold qfV;rw [List.take_length];rfl
    generalize qfV nx n seen s i=sn at hsl hsc hsk hfin;refine zaa rfl fun K hK=>bv rfl (qag rfl rfl qaF) ?_;refine qab (hK _ (AW.to (qaZ (s':=⟨[(1,.ptr 136008 v8 0),(2,.ptr 136005 v5 0),(3,.ptr 136009 v9 0),(13,.ar (rid s) rv 1 0 rl.length),(14,hI (rl.length:Int)),(15,hI (i:Int)),(16,.bool (decide ((i:Int)<(rl.length:Int))))],hR v8 v36 v5 v12 v9 Sn sn rs⟩) ⟨qaP ⟨rfl,rfl,rfl,rfl,rfl,rfl,rfl,trivial⟩,fun _ _ h=>h⟩ ?_)));refine zak rfl (fun hc=>?_) (fun hc=>?_)
    · have hc:=of_decide_eq_true hc
      have hil:i<rl.length:=by omega
      have hsk:=hsk hil;obtain ⟨t0,t1⟩:=hbt _ (List.getElem_mem hil)
      have hidx:idx rl (i:Int)=some rl[i]:=by rw [qgh,List.getElem?_eq_getElem hil]
      have htl:rl[i].toNat<sn.length:=by omega
      have hidb:idx sn rl[i]=some (sn.getD rl[i].toNat true):=by
        unfold idx;rw [if_pos t0,List.getElem?_eq_getElem htl,List.getD_eq_getElem?_getD,List.getElem?_eq_getElem htl];rfl
      generalize rl[i]=tt at t0 t1 hidx hidb hsk htl;refine zac ?_;refine zad (zaf ?_);refine zaa rfl fun K hK=>bv rfl (qgO ty36 es36 rfl rfl (qay hidx) (hrg _)) (bv rfl (qaf ty3 rfl (hrg _) (qaW eInt hidx (o:=0) rfl rfl)) (mv rfl rfl ?_));refine qab (hK _ (AW.to (qaZ (s':=⟨[(1,.ptr 136008 v8 0),(2,.ptr 136005 v5 0),(3,.ptr 136009 v9 0),(6,hI tt),(13,.ar (rid s) rv 1 0 rl.length),(14,hI (rl.length:Int)),(15,hI (i:Int))],hR v8 v36 v5 v12 v9 Sn sn rs⟩) ⟨qaP ⟨rfl,rfl,rfl,rfl,rfl,rfl,rfl,trivial⟩,fun _ _ h=>h⟩ ?_)));refine zaa rfl fun K hK=>bv rfl (qaf qgZ rfl rfl (qaj rfl rfl)) (mv rfl rfl (bv rfl (qgO qgZ qqp rfl rfl ⟨t0,t1⟩ rfl) (bv rfl (qaf ty4 rfl rfl (qaW eBool hidb (o:=0) rfl rfl)) (bv rfl (qdX rfl) ?_))));refine qab (hK _ (AW.to (qaZ (s':=⟨[(1,.ptr 136008 v8 0),(2,.ptr 136005 v5 0),(3,.ptr 136009 v9 0),(6,hI tt),(13,.ar (rid s) rv 1 0 rl.length),(14,hI (rl.length:Int)),(15,hI (i:Int)),(23,.bool (!(sn.getD tt.toNat true)))],hR v8 v36 v5 v12 v9 Sn sn rs⟩) ⟨qaP ⟨rfl,rfl,rfl,rfl,rfl,rfl,rfl,rfl,trivial⟩,fun _ _ h=>h⟩ ?_)))
      have hnxt:IntKind.wrap .i64 ((i:Int)+1)=((i+1:Nat):Int):=by rw [w64 (by omega) (by omega)]; omega
      refine zae rfl (fun hc=>?_) (fun hc=>?_)
      · have hc':sn.getD tt.toNat true=false:=by simpa using hc
        rw [hc',if_neg (by decide)] at hsk;have hcall:=qjM (v8:=v8) (v36:=v36) (v5:=v5) (v12:=v12) (v9:=v9) hrs hnx hb hl hS n sn tt.toNat (by omega) (by omega) hc' hsc;rw [← hsk,show ((tt.toNat:Nat):Int)=tt by omega] at hcall;refine zab rfl fun K hK=>bv rfl (qaf ty83 rfl rfl (qaj rfl rfl)) (mv rfl rfl ?_);refine b_op rfl (qdd rfl rfl rfl rfl (hcall.mono fun r H' he=>?_));obtain ⟨rfl,rfl⟩:=he;refine qab (hK _ ?_);refine zab rfl fun K hK=>bv rfl (qag rfl rfl qaX) (mv rfl rfl ?_);refine qab (hK _ ?_);exact ⟨i+1,by omega,by omega,⟨qaP ⟨rfl,rfl,rfl,rfl,rfl,by rw [← hnxt]; rfl,trivial⟩,fun _ _ h=>h⟩⟩
      have hc':sn.getD tt.toNat true=true:=by simpa using hc
      rw [hc',if_pos rfl] at hsk;refine zac ?_;refine zab rfl fun K hK=>bv rfl (qag rfl rfl qaX) (mv rfl rfl ?_);refine qab (hK _ ?_);exact ⟨i+1,by omega,by omega,⟨qaP ⟨rfl,rfl,rfl,rfl,rfl,by rw [← hnxt]; rfl,trivial⟩,fun id x h=>by rw [hsk] at h; exact h⟩⟩
    have hc:=of_decide_eq_false hc
    have hie:i=rl.length:=by omega
    refine AW.exit ?_;exact ⟨.inl rfl,⟨_,_,Conv.refl _ _,rfl,by rw [hfin hie]⟩⟩
abbrev hN (v5 v12 Sn:Nat) (hd:List HV) (rs:Rws):Heap:=(136005,v5,.arr 1 121 [.ar 136012 v12 1 0 Sn])::(136012,v12,.arr 1 36 hd)::qfg 0 rs
theorem qqW {v5 v12 Sn:Nat} {hd:List HV} {rs:Rws} (i:Nat):hget (hN v5 v12 Sn hd rs) (rid i)=hget (qfg 0 rs) (rid i):=by
  rw [qaD (by unfold rid; omega),qaD (by unfold rid; omega)]
def valR (v7 v12 v':Nat) (n:Nat) (e:qaq) (rv:Nat) (l:List Int):Nat→HV
  | 0 | 3=>HV.ar 136012 v12 1 0 n
  | 1 | 4=>HV.ptr 136007 v7 0
  | 2 | 5=>hI e.1
  | 6=>HV.ptr 136012 v12 (e.1.toNat*1)
  | 7=>HV.ar (rid e.1.toNat) rv 1 0 l.length
  | 8=>HV.ptr 136007 v7 2
  | 9=>hI e.2.2
  | 10=>HV.sl 1 1 [hI e.2.2]
  | _=>HV.ar (rid e.1.toNat) v' 1 0 (l++[e.2.2]).length
abbrev hpR (v5 v7 v12 Sn:Nat) (e:qaq) (hd:List HV) (rs':Rws):Heap:=(136007,v7,.arr 3 35 (qbi e))::hN v5 v12 Sn hd rs'
theorem qmn {v5 v7 v12 Sn:Nat} {e:qaq} {hd:List HV} {rs:Rws} (i:Nat):hget (hpR v5 v7 v12 Sn e hd rs) (rid i)=hget (qfg 0 rs) (rid i):=by
  rw [qaD (by unfold rid; omega),qqW]
structure InvR (base:List (Nat × HV)) (val:Nat→Nat→HV) (H0:Heap) (H1:Nat→Heap) (v':Nat) (L:List Nat) (s:AS):Prop where
  base:∀ p∈base,sget s.slots p.1=some p.2
  val:∀ k∈L,k<12→sget s.slots (20+k)=some (val v' k)
  heap:∀ id x,hget (if 11∈L then H1 v' else H0) id=some x→hget s.heap id=some x
theorem InvR.put {base:List (Nat × HV)} {val:Nat→Nat→HV} {H0:Heap} {H1:Nat→Heap} {v':Nat} {L:List Nat} {s:AS} (h:InvR base val H0 H1 v' L s) (hb:∀ p∈base,p.1<20) {i:Nat} (hi:i≠11) {hv:HV} (hval:val v' i=hv):InvR base val H0 H1 v' (i::L) ⟨(20+i,hv)::s.slots,s.heap⟩ where
  base:=fun p hp=>by
    have:=hb p hp;show sget ((20+i,hv)::s.slots) p.1=_;simp only [sget];rw [if_neg (by omega)];exact h.base p hp
  val := fun k hk h12=>by
    show sget ((20+i,hv)::s.slots) (20+k)=_;simp only [sget];by_cases e:k=i
    · subst e
      rw [if_pos rfl,hval]
    rw [if_neg (by omega)]
    rcases List.mem_cons.1 hk with h1 | h1
    · exact absurd h1 e
    exact h.val k h1 h12
  heap:=fun id x hx=>by
    refine h.heap id x ?_
    have:(11∈i::L)↔11∈L:=by
      rw [List.mem_cons];exact ⟨fun h=>h.elim (fun e=>absurd e.symm hi) (fun h=>h),.inr⟩
    by_cases h11:11∈L
    · rw [if_pos (this.2 h11)] at hx
      rw [if_pos h11]; exact hx
    rw [if_neg (fun h=>h11 (this.1 h))] at hx;rw [if_neg h11]; exact hx
theorem qnR (E:List qaq) {k:Nat} (h:k<E.length) (i:Nat):qeO (E.take (k+1)) i=qeO (E.take k) i++if E[k].1=(i:Int) then [E[k].2.2] else []:=by
  unfold qeO;rw [← List.take_append_getElem h,List.filter_append,List.map_append]
  congr 1
  by_cases e:E[k].1=(i:Int)
  · rw [if_pos e,List.filter_cons,if_pos (by simpa using e)]; rfl
  rw [if_neg e,List.filter_cons,if_neg (by simpa using e)]; rfl
set_option maxHeartbeats 8000000 in
set_option maxRecDepth 100000 in
theorem qhL {p0:qaa} {p1:Int} {r:List Bool} (h:qc6 p0 p1=some r):Pure Tryz.prog 136 [gA p0,hI p1] (· = slE eBool r):=by
  unfold qc6 at h;by_cases hok:qow p0 p1
  case neg=>rw [if_neg hok] at h; cases h
  rw [if_pos hok] at h;obtain rfl:=oi h;obtain ⟨L0,SS,E⟩:=p0;obtain ⟨⟨hs0,hs1⟩,hE,⟨h0,h1⟩,hed⟩:=hok;simp only at hs0 hs1 hE h0 h1 hed ⊢;obtain ⟨Sn,rfl⟩:=Int.eq_ofNat_of_zero_le hs0;obtain ⟨sn,rfl⟩:=Int.eq_ofNat_of_zero_le h0;refine zaj Tryz.func136 rfl rfl (lb rfl) fun hf=>?_;clear hf hs0 h0;unfold Tryz.f136;dsimp only [qaL,Nat.reduceAdd];refine zaa rfl fun K hK=>b_op rfl (qbh rfl rfl rfl ?_);refine mv rfl rfl ?_;let P1:ASf:=fun t H=>⟨(1,hI (sn:Int))::(2,.fptr [hI L0,hI (Sn:Int),slE eFromLabelTo E] 0)::t,H⟩;refine bf hK (P1 [] []) ?_;refine zaa rfl fun K hK=>bv rfl (qac qfl rfl) (bv rfl (qad ty3 rfl (qaj rfl rfl)) ?_);refine b_op rfl (qjg (fid:=136) (encM fun _:Unit=>HV.v (.slice none 0 0)) () 136012 rfl rfl qfU rfl rfl ty36 rfl rfl (show 0≤(Sn:Int)∧(Sn:Int)≤(Sn:Int)∧(Sn:Int)*((24:Nat):Int)≤281474976710656 by omega) (fun v12=>?_));refine b_op rfl (qaC (fid:=136) (zs:=[.v (.slice none 0 0)]) 136005 rfl rfl qfU rfl (fun v5=>?_));refine b_op rfl (qax (cs:=[.ar 136012 v12 1 0 (List.replicate (Sn:Int).toNat ()).length]) (zs:=[.ar 136012 v12 1 0 (List.replicate (Sn:Int).toNat ()).length]) rfl rfl rfl qfU rfl rfl rfl rfl rfl ?_);refine bf hK (P1 [(5,.ptr 136005 v5 0)] [(136005,v5,.arr 1 121 [.ar 136012 v12 1 0 (List.replicate (Sn:Int).toNat ()).length]),(136012,v12,.arr 1 36 ((List.replicate (Sn:Int).toNat ()).map fun _=>HV.v (.slice none 0 0)))]) ?_;simp only [Int.toNat_natCast,List.length_replicate,List.map_replicate];refine AW.to (qog 136012 v12 36 [(136005,v5,.arr 1 121 [.ar 136012 v12 1 0 Sn])] Sn (fun i=>by unfold rid; omega) (fun i=>by rw [qaD (by unfold rid; omega)]; rfl) rfl Sn [] (by simp) (fun i v l hi=>by simp at hi) (fun id x hx=>qcF (l':=[(136012,v12,.arr 1 36 (List.replicate Sn (HV.v (.slice none 0 0)))),(136005,v5,.arr 1 121 [.ar 136012 v12 1 0 Sn])]) ⟨rfl,rfl,trivial⟩ id x hx) fun rs0 hrl0 hrs0=>?_);refine AW.to (qaZ (s':=⟨[(1,hI (sn:Int)),(2,.fptr [hI L0,hI (Sn:Int),slE eFromLabelTo E] 0),(5,.ptr 136005 v5 0)],hN v5 v12 Sn (hdr 0 rs0) rs0⟩) ⟨qaP ⟨rfl,rfl,rfl,trivial⟩,qcF ⟨rfl,rfl,qfC _ 0 fun i v l hi=>?_⟩⟩ ?_)
  · rw [Nat.zero_add]
    show hget ((136012,v12,.arr 1 36 (hdr 0 rs0))::([(136005,v5,.arr 1 121 [.ar 136012 v12 1 0 Sn])]++qfg 0 rs0)) (rid i)=_;rw [qaD (by unfold rid; omega),List.singleton_append,qaD (by unfold rid; omega)];have:=qdn 0 hi
    rwa [Nat.zero_add] at this
  refine zad ?_;refine zaa rfl fun K hK=>bv rfl (qac qea rfl) (bv rfl (qad ty25 rfl (qaj rfl rfl)) (bv rfl (qav rfl rfl ty25 rfl) (mv rfl rfl ?_)));refine qab (hK _ (AW.to (qaZ (s':=⟨[(1,hI (sn:Int)),(2,.fptr [hI L0,hI (Sn:Int),slE eFromLabelTo E] 0),(5,.ptr 136005 v5 0),(14,slE eFromLabelTo E),(15,hI (E.length:Int)),(16,hI 0)],hN v5 v12 Sn (hdr 0 rs0) rs0⟩) ⟨qaP ⟨rfl,rfl,rfl,rfl,rfl,rfl,trivial⟩,fun _ _ h=>h⟩ ?_)));refine zaf ?_
  refine AW.loopS (fun a:Nat × Rws=>⟨[(1,hI (sn:Int)),(2,.fptr [hI L0,hI (Sn:Int),slE eFromLabelTo E] 0),(5,.ptr 136005 v5 0),(14,slE eFromLabelTo E),(15,hI (E.length:Int)),(16,hI (a.1:Int))],hN v5 v12 Sn (hdr 0 a.2) a.2⟩)
    (fun a=>a.1≤E.length∧a.2.length=Sn∧∀ (i v:Nat) (l:List Int),a.2[i]?=some (v,l)→l=qeO (E.take a.1) i∧l.length≤a.1) (fun a=>E.length - a.1) (0,rs0) ⟨qaP ⟨rfl,rfl,rfl,rfl,rfl,rfl,trivial⟩,fun _ _ h=>h⟩ ⟨Nat.zero_le _,hrl0,fun i v l hi=>by rw [hrs0 i v l hi]; exact ⟨rfl,Nat.le_refl _⟩⟩ ?_
  clear hrl0 hrs0 rs0
  rintro ⟨k,rs⟩ ⟨hk,hrs,hrw⟩
  simp only at hk hrs hrw;refine zaa rfl fun K hK=>bv rfl (qag rfl rfl qaF) ?_;refine qab (hK _ (AW.to (qaZ (s':=⟨[(1,hI (sn:Int)),(2,.fptr [hI L0,hI (Sn:Int),slE eFromLabelTo E] 0),(5,.ptr 136005 v5 0),(14,slE eFromLabelTo E),(15,hI (E.length:Int)),(16,hI (k:Int)),(17,.bool (decide ((k:Int)<(E.length:Int))))],hN v5 v12 Sn (hdr 0 rs) rs⟩) ⟨qaP ⟨rfl,rfl,rfl,rfl,rfl,rfl,rfl,trivial⟩,fun _ _ h=>h⟩ ?_)));refine zak rfl (fun hc=>?_) (fun hc=>?_)
  · have hc := of_decide_eq_true hc
    have hkl:k<E.length:=by omega
    have hnk:=qnR E hkl;obtain ⟨⟨he1,he2⟩,⟨he3,he4⟩⟩:=hed _ (List.getElem_mem hkl)
    have hidx:idx E (k:Int)=some E[k]:=by rw [qgh,List.getElem?_eq_getElem hkl]
    generalize E[k]=e at hnk he1 he2 he3 he4 hidx
    have hfl0:e.1.toNat<rs.length:=by omega
    obtain ⟨⟨rv,l⟩,hrow⟩:∃ b,rs[e.1.toNat]?=some b:=⟨_,List.getElem?_eq_getElem hfl0⟩;obtain ⟨hlk,hlen⟩:=hrw _ _ _ hrow;refine zac ?_;refine zad (zaf ?_);refine zaa rfl fun K hK=>bv rfl (qaI ty25 es25 rfl rfl (qay hidx)) (bv rfl (qad ty35 rfl (qgg eFromLabelTo hidx rfl rfl)) ?_);refine b_op rfl (qaC (fid:=136) (zs:=[hI 0,hI 0,hI 0]) 136007 rfl rfl ty35 rfl (fun v7=>?_));refine b_op rfl (qax (cs:=qbi e) (zs:=qbi e) rfl rfl rfl ty35 rfl rfl rfl rfl rfl ?_);refine qab (hK _ (AW.to (qaZ (s':=⟨[(1,hI (sn:Int)),(2,.fptr [hI L0,hI (Sn:Int),slE eFromLabelTo E] 0),(5,.ptr 136005 v5 0),(7,.ptr 136007 v7 0),(14,slE eFromLabelTo E),(15,hI (E.length:Int)),(16,hI (k:Int))],hpR v5 v7 v12 Sn e (hdr 0 rs) rs⟩) ⟨qaP ⟨rfl,rfl,rfl,rfl,rfl,rfl,rfl,trivial⟩,qll⟩ ?_)));refine AW.dl follows fun K hK F hF=>?_;refine l_go (L':=[]) hF rfl (s':=⟨[(1,hI (sn:Int)),(2,.fptr [hI L0,hI (Sn:Int),slE eFromLabelTo E] 0),(5,.ptr 136005 v5 0),(7,.ptr 136007 v7 0),(14,slE eFromLabelTo E),(15,hI (E.length:Int)),(16,hI (k:Int))],hpR v5 v7 v12 Sn e (hdr 0 rs) rs⟩) ?_ ⟨qaP ⟨rfl,rfl,rfl,rfl,rfl,rfl,rfl,trivial⟩,fun _ _ h=>h⟩
    have hfin:∀ v',F [0,1,2,3,4,5,6,7,8,9,10,11] ⟨(20,.ar 136012 v12 1 0 Sn)::(22,hI e.1)::(31,.ar (rid e.1.toNat) v' 1 0 (l++[e.2.2]).length)::[(1,hI (sn:Int)),(2,.fptr [hI L0,hI (Sn:Int),slE eFromLabelTo E] 0),(5,.ptr 136005 v5 0),(7,.ptr 136007 v7 0),(14,slE eFromLabelTo E),(15,hI (E.length:Int)),(16,hI (k:Int))],hpR v5 v7 v12 Sn e (hdr 0 rs) (rs.set e.1.toNat (v',l++[e.2.2]))⟩:=by
      intro v'
      have hdone:F [0,1,2,3,4,5,6,7,8,9,10,11,12,13] ⟨[(1,hI (sn:Int)),(2,.fptr [hI L0,hI (Sn:Int),slE eFromLabelTo E] 0),(5,.ptr 136005 v5 0),(7,.ptr 136007 v7 0),(14,slE eFromLabelTo E),(15,hI (E.length:Int)),(16,hI (k:Int))],hpR v5 v7 v12 Sn e (hdr 0 (rs.set e.1.toNat (v',l++[e.2.2]))) (rs.set e.1.toNat (v',l++[e.2.2]))⟩:=by
        refine qig hF rfl rfl (hK _ ?_);clear hF F hK K;refine zab rfl fun K hK=>bv rfl (qag rfl rfl qaX) (mv rfl rfl ?_);refine qab (hK _ ?_)
        have hnxt:IntKind.wrap .i64 ((k:Int)+1)=((k+1:Nat):Int):=by rw [w64 (by omega) (by omega)]; omega
        refine ⟨(k+1,rs.set e.1.toNat (v',l++[e.2.2])),⟨by simp only; omega,by simp only [List.length_set]; exact hrs,?_⟩,by simp only; omega,⟨qaP ⟨rfl,rfl,rfl,rfl,rfl,by rw [← hnxt]; rfl,trivial⟩,fun id x hx=>?_⟩⟩
        · intro i v m hi
          simp only at hi ⊢;rw [hnk];by_cases ei:e.1.toNat=i
          · subst ei
            rw [List.getElem?_set_self hfl0] at hi;cases hi;rw [if_pos (by omega),← hlk];exact ⟨rfl,by simp; omega⟩
          rw [List.getElem?_set_ne ei] at hi;obtain ⟨q1,q2⟩:=hrw _ _ _ hi;rw [if_neg (by omega),List.append_nil];exact ⟨q1,by omega⟩
        show hget (hpR v5 v7 v12 Sn e _ _) id=some x;by_cases j7:id=136007
        · subst j7
          have hno:hget (hN v5 v12 Sn (hdr 0 (rs.set e.1.toNat (v',l++[e.2.2]))) (rs.set e.1.toNat (v',l++[e.2.2]))) 136007=none:=by
            rw [qaD (by decide),qaD (by decide)]
            exact qih _ _ fun i _=>by unfold rid; omega
          rw [hno] at hx;cases hx
        rw [qaD j7]; exact hx
      have hj:0≤e.1∧e.1<(Sn:Int):=⟨he1,he2⟩
      have hj2:0≤e.1∧e.1<((hdr 0 rs).length:Int):=by rw [qhU]; omega
      have hst:F [12,0,1,2,3,4,5,6,7,8,9,10,11] ⟨(32,.ptr 136012 v12 (e.1.toNat*1))::(20,.ar 136012 v12 1 0 Sn)::(22,hI e.1)::(31,.ar (rid e.1.toNat) v' 1 0 (l++[e.2.2]).length)::[(1,hI (sn:Int)),(2,.fptr [hI L0,hI (Sn:Int),slE eFromLabelTo E] 0),(5,.ptr 136005 v5 0),(7,.ptr 136007 v7 0),(14,slE eFromLabelTo E),(15,hI (E.length:Int)),(16,hI (k:Int))],hpR v5 v7 v12 Sn e (hdr 0 rs) (rs.set e.1.toNat (v',l++[e.2.2]))⟩:=by
        refine qaT hF rfl [13] rfl rfl ⟨?_,trivial⟩;refine l_op rfl rfl rfl (qiL eHd (l:=hdr 0 rs) (j:=e.1) (v:=HV.ar (rid e.1.toNat) v' 1 0 (l++[e.2.2]).length) rfl rfl rfl ty36 rfl rfl rfl hj2 (qab ?_));refine l_go (L':=[0,1,2,3,4,5,6,7,8,9,10,11,12,13]) hF rfl hdone ⟨qaP ⟨rfl,rfl,rfl,rfl,rfl,rfl,rfl,trivial⟩,?_⟩
        have eh:hdr 0 (rs.set e.1.toNat (v',l++[e.2.2]))=(hdr 0 rs).set e.1.toNat (HV.ar (rid e.1.toNat) v' 1 0 (l++[e.2.2]).length):=by rw [qoX,Nat.zero_add]
        rw [eh];refine qcF ⟨rfl,rfl,rfl,qfC _ 0 fun i v m hi=>?_⟩;show hget ((136012,v12,_)::hpR v5 v7 v12 Sn e (hdr 0 rs) (rs.set e.1.toNat (v',l++[e.2.2]))) _=_;rw [Nat.zero_add,qaD (by unfold rid; omega),qmn];have:=qdn 0 hi
        rwa [Nat.zero_add] at this
      exact qfR (i:=12) hF rfl rfl rfl (qgO qfU qrJ rfl rfl hj rfl) hst
    have hlen:l.length≤100000:=by omega
    have hS:Sn≤1000:=by omega
    have hfl:e.1.toNat<rs.length:=(List.getElem?_eq_some_iff.1 hrow).1
    have hhd:(hdr 0 rs)[e.1.toNat*1]?=some (HV.ar (rid e.1.toNat) rv 1 0 l.length):=by
      have:=qmp 0 hrow;rw [Nat.zero_add] at this;rw [Nat.mul_one];exact this
    have hinv:=qrC (F:=F) hF rfl 12 (by decide) rfl (fun L s=>∃ v',InvR [(1,hI (sn:Int)),(2,.fptr [hI L0,hI (Sn:Int),slE eFromLabelTo E] 0),(5,.ptr 136005 v5 0),(7,.ptr 136007 v7 0),(14,slE eFromLabelTo E),(15,hI (E.length:Int)),(16,hI (k:Int))] (fun v' k=>valR v7 v12 v' Sn e rv l k) (hpR v5 v7 v12 Sn e (hdr 0 rs) rs) (fun v'=>hpR v5 v7 v12 Sn e (hdr 0 rs) (rs.set e.1.toNat (v',l++[e.2.2]))) v' L s) ?_ ?_ 12 [] ⟨[(1,hI (sn:Int)),(2,.fptr [hI L0,hI (Sn:Int),slE eFromLabelTo E] 0),(5,.ptr 136005 v5 0),(7,.ptr 136007 v7 0),(14,slE eFromLabelTo E),(15,hI (E.length:Int)),(16,hI (k:Int))],hpR v5 v7 v12 Sn e (hdr 0 rs) rs⟩ ⟨0,⟨?_,(fun k hk=>by cases hk),fun id x h=>by rw [if_neg (by simp)] at h; exact h⟩⟩ (fun k hk=>by cases hk) List.nodup_nil rfl
    · exact hinv
    · -- each operation
      rintro L s i ⟨v',hIq⟩ hi hiL hdeps
      have hb20:∀ p∈([(1,hI (sn:Int)),(2,.fptr [hI L0,hI (Sn:Int),slE eFromLabelTo E] 0),(5,.ptr 136005 v5 0),(7,.ptr 136007 v7 0),(14,slE eFromLabelTo E),(15,hI (E.length:Int)),(16,hI (k:Int))]:List (Nat × HV)),p.1<20:=by
        intro p hp;simp only [List.mem_cons,List.not_mem_nil,or_false] at hp
        rcases hp with rfl | rfl | rfl | rfl | rfl | rfl | rfl <;> (dsimp only; omega)
      have h5:sget s.slots 5=some (HV.ptr 136005 v5 0):=hIq.base (5,_) (by simp);have h7:sget s.slots 7=some (HV.ptr 136007 v7 0):=hIq.base (7,_) (by simp)
      have g5:hget s.heap 136005=some (v5,.arr 1 121 [.ar 136012 v12 1 0 Sn]):=by
        refine hIq.heap _ _ ?_
        split <;> rfl
      have g12:hget s.heap 136012=some (v12,.arr 1 36 (hdr 0 rs)):=by
        refine hIq.heap _ _ ?_
        split <;> rfl
      have g7:hget s.heap 136007=some (v7,.arr 3 35 (qbi e)):=by
        refine hIq.heap _ _ ?_
        split <;> rfl
      have val:=hIq.val
      match i,hi with
      | 0,_=>exact l_op rfl rfl rfl (qai rfl (qaf qfU h5 g5 (qaj rfl rfl)) (qab ⟨v',hIq.put hb20 (by decide) rfl⟩))
      | 1,_=>exact l_op rfl rfl rfl (qai rfl (qal qii h7 g7) (qab ⟨v',hIq.put hb20 (by decide) rfl⟩))
      | 2,_ =>
        have q:=val 1 (hdeps 1 (by decide)) (by decide);exact l_op rfl rfl rfl (qai rfl (qaf ty3 q g7 (qaj rfl rfl)) (qab ⟨v',hIq.put hb20 (by decide) rfl⟩))
      | 3,_=>exact l_op rfl rfl rfl (qai rfl (qaf qfU h5 g5 (qaj rfl rfl)) (qab ⟨v',hIq.put hb20 (by decide) rfl⟩))
      | 4,_=>exact l_op rfl rfl rfl (qai rfl (qal qii h7 g7) (qab ⟨v',hIq.put hb20 (by decide) rfl⟩))
      | 5,_ =>
        have q:=val 4 (hdeps 4 (by decide)) (by decide);exact l_op rfl rfl rfl (qai rfl (qaf ty3 q g7 (qaj rfl rfl)) (qab ⟨v',hIq.put hb20 (by decide) rfl⟩))
      | 6,_ =>
        have q:=val 3 (hdeps 3 (by decide)) (by decide);have q2:=val 5 (hdeps 5 (by decide)) (by decide);exact l_op rfl rfl rfl (qai rfl (qgO qfU qrJ q q2 ⟨he1,by omega⟩ g12) (qab ⟨v',hIq.put hb20 (by decide) rfl⟩))
      | 7,_ =>
        have q:=val 6 (hdeps 6 (by decide)) (by decide);exact l_op rfl rfl rfl (qai rfl (qaf ty36 q g12 (qaj rfl hhd)) (qab ⟨v',hIq.put hb20 (by decide) rfl⟩))
      | 8,_=>exact l_op rfl rfl rfl (qai rfl (qal qlx h7 g7) (qab ⟨v',hIq.put hb20 (by decide) rfl⟩))
      | 9,_ =>
        have q:=val 8 (hdeps 8 (by decide)) (by decide);exact l_op rfl rfl rfl (qai rfl (qaf ty3 q g7 (qaj rfl rfl)) (qab ⟨v',hIq.put hb20 (by decide) rfl⟩))
      | 10,_ =>
        have q:=val 9 (hdeps 9 (by decide)) (by decide);have q':s.ev (.tmp 29)=some (hI e.2.2):=q;exact l_op rfl rfl rfl (qdx rfl rfl (qdp (cs:=[hI e.2.2]) (qs:=[(0,hI e.2.2)]) ty36 ty3 rfl (by simp only [qee,List.mapM_cons,List.mapM_nil,q']; rfl) rfl rfl rfl) (qab ⟨v',hIq.put hb20 (by decide) rfl⟩))
      | 11, _ =>
        have q:=val 7 (hdeps 7 (by decide)) (by decide);have q2:=val 10 (hdeps 10 (by decide)) (by decide)
        have hr0:hget s.heap (rid e.1.toNat)=some (rv,.arr 1 3 (eInt.E l)):=by
          refine hIq.heap _ _ ?_;rw [if_neg hiL,qmn];have:=qdn 0 hrow
          rwa [Nat.zero_add] at this
        refine l_op rfl rfl rfl (qeF eInt (l:=l) (m:=[e.2.2]) rfl rfl ty36 ty36 ty3 q hr0 q2 rfl rfl ⟨by simp; omega,by simp only [maxLen,List.length_singleton]; omega⟩ (fun v2=>qab ⟨v2,?_⟩));refine ⟨fun p hp=>?_,fun k hk h12=>?_,fun id x hx=>?_⟩
        · have:=hb20 p hp
          show sget ((31,_)::s.slots) p.1=_;simp only [sget];rw [if_neg (by omega)];exact hIq.base p hp
        · show sget ((31,_)::s.slots) (20+k)=_
          simp only [sget];by_cases ek:k=11
          · subst ek
            rfl
          rw [if_neg (by omega)]
          rcases List.mem_cons.1 hk with h1 | h1
          · exact absurd h1 ek
          have:=val k h1 h12;rw [this]
          match k,ek,h12 with
          | 0,_,_ | 1,_,_ | 2,_,_ | 3,_,_ | 4,_,_ | 5,_,_ | 6,_,_ | 7,_,_ | 8,_,_ | 9,_,_ | 10,_,_=>rfl
          | 11,h,_=>exact absurd rfl h
        rw [if_pos (List.mem_cons_self ..)] at hx;show hget ((rid e.1.toNat,v2,.arr 1 3 (eInt.E (l++[e.2.2])))::s.heap) id=some x;by_cases ei:id=rid e.1.toNat
        · subst ei
          rw [qmn] at hx;have:=qmG (v':=v2) (l':=l++[e.2.2]) hrow _ _ hx;rw [qa6] at this ⊢;exact this
        rw [qaD ei];refine hIq.heap id x ?_;rw [if_neg hiL];by_cases j7:id=136007
        · subst j7; exact hx
        by_cases j5:id=136005
        · subst j5; exact hx
        by_cases j12:id=136012
        · subst j12; exact hx
        rw [qaD j7,qaD j5,qaD j12] at hx ⊢;have:=qmG (v':=v2) (l':=l++[e.2.2]) hrow _ _ hx
        rwa [qaD ei] at this
    · -- the rest
      rintro L s ⟨v',hIq⟩ hall
      have h11:11∈L:=(hall 11).1 (by decide);refine l_go (L':=[0,1,2,3,4,5,6,7,8,9,10,11]) hF ?_ (hfin v') ⟨?_,fun id x h=>hIq.heap id x (by rw [if_pos h11]; exact h)⟩
      · rw [List.all_eq_true]
        intro i _;by_cases h:i<12
        · have e1:L.contains i=true:=List.contains_iff_mem.2 ((hall i).1 h)
          rw [e1]
          match i,h with
          | 0,_ | 1,_ | 2,_ | 3,_ | 4,_ | 5,_ | 6,_ | 7,_ | 8,_ | 9,_ | 10,_ | 11,_=>rfl
        have e1:L.contains i=false:=by
          cases hc:L.contains i with
          | false=>rfl
          | true=>exact absurd ((hall i).2 (List.contains_iff_mem.1 hc)) h
        have e2:([0,1,2,3,4,5,6,7,8,9,10,11]:List Nat).contains i=false:=by
          cases hc:([0,1,2,3,4,5,6,7,8,9,10,11]:List Nat).contains i with
          | false=>rfl
          | true =>
            have:=List.contains_iff_mem.1 hc;simp at this;omega
        rw [e1,e2];rfl
      refine qaP ⟨hIq.val 0 ((hall 0).1 (by decide)) (by decide),hIq.val 2 ((hall 2).1 (by decide)) (by decide),hIq.val 11 h11 (by decide),?_⟩;exact ⟨hIq.base (1,_) (by simp),hIq.base (2,_) (by simp),hIq.base (5,_) (by simp),hIq.base (7,_) (by simp),hIq.base (14,_) (.tail _ (.tail _ (.tail _ (.tail _ (.head _))))),hIq.base (15,_) (by simp),hIq.base (16,_) (by simp),trivial⟩
    intro p hp;simp only [List.mem_cons,List.not_mem_nil,or_false] at hp
    rcases hp with rfl | rfl | rfl | rfl | rfl | rfl | rfl <;> rfl
  have hc:=of_decide_eq_false hc
  have hkE:k=E.length:=by omega
  subst hkE;rw [List.take_length] at hrw;refine AW.exit ?_;refine zaa rfl fun K hK=>bv rfl (qac qfl rfl) (bv rfl (qad ty3 rfl (qaj rfl rfl)) ?_);refine b_op rfl (qjg (fid:=136) eBool false 136036 rfl rfl qgZ rfl rfl ty4 rfl rfl (show 0≤(Sn:Int)∧(Sn:Int)≤(Sn:Int)∧(Sn:Int)*((1:Nat):Int)≤281474976710656 by omega) (fun v36=>?_));refine b_op rfl (qaC (fid:=136) (zs:=[.v (.slice none 0 0)]) 136008 rfl rfl qgZ rfl (fun v8=>?_));refine b_op rfl (qax (cs:=[.ar 136036 v36 1 0 (List.replicate (Sn:Int).toNat false).length]) (zs:=[.ar 136036 v36 1 0 (List.replicate (Sn:Int).toNat false).length]) rfl rfl rfl qgZ rfl rfl rfl rfl rfl ?_);refine qab (hK _ (AW.to (qaZ (s':=⟨[(1,hI (sn:Int)),(2,.fptr [hI L0,hI (Sn:Int),slE eFromLabelTo E] 0),(5,.ptr 136005 v5 0),(8,.ptr 136008 v8 0)],(136008,v8,.arr 1 186 [.ar 136036 v36 1 0 (List.replicate (Sn:Int).toNat false).length])::(136036,v36,.arr 1 4 (eBool.E (List.replicate (Sn:Int).toNat false)))::hN v5 v12 Sn (hdr 0 rs) rs⟩) ⟨qaP ⟨rfl,rfl,rfl,rfl,trivial⟩,qll⟩ ?_)));simp only [Int.toNat_natCast,List.length_replicate];refine zaa rfl fun K hK=>b_op rfl (qaC (fid:=136) (zs:=[.v .nilFunc]) 136009 rfl rfl ty83 rfl (fun v9=>?_));refine qab (hK _ ?_);refine zaa rfl fun K hK=>bv rfl (qeT rfl rfl) ?_;refine b_op rfl (qax (cs:=[.fn (.func 153) [] [.ptr 136008 v8 0,.ptr 136005 v5 0,.ptr 136009 v9 0]]) (zs:=[.fn (.func 153) [] [.ptr 136008 v8 0,.ptr 136005 v5 0,.ptr 136009 v9 0]]) rfl rfl rfl ty83 rfl rfl rfl rfl rfl ?_);refine qab (hK _ (AW.to (qaZ (s':=⟨[(1,hI (sn:Int)),(8,.ptr 136008 v8 0),(9,.ptr 136009 v9 0)],hR v8 v36 v5 v12 v9 Sn (List.replicate Sn false) rs⟩) ⟨qaP ⟨rfl,rfl,rfl,trivial⟩,qcF ⟨rfl,rfl,rfl,rfl,rfl,qfC _ 0 fun i v l hi=>?_⟩⟩ ?_)))
  · show hget ((136009,v9,_)::(136009,v9,_)::(136008,v8,_)::(136036,v36,_)::hN v5 v12 Sn (hdr 0 rs) rs) _=_
    rw [Nat.zero_add,qaD (by unfold rid; omega),qaD (by unfold rid; omega),qaD (by unfold rid; omega),qaD (by unfold rid; omega),qqW];have:=qdn 0 hi
    rwa [Nat.zero_add] at this
  have hnb:∀ i,i<Sn→∀ t∈qeO E i,0≤t∧t<(Sn:Int):=fun i _ t ht=>by
    obtain ⟨x,hx,rfl⟩:=List.mem_map.1 ht;exact (hed x (List.mem_filter.1 hx).1).2
  have hnl:∀ i,i<Sn→(qeO E i).length≤100000:=fun i _=>by
    unfold qeO;rw [List.length_map];exact Nat.le_trans (List.length_filter_le _ _) hE
  have hcnt:(List.replicate Sn false).count false=Sn:=by simp
  have hget0:(List.replicate Sn false).getD sn true=false:=by
    rw [List.getD_eq_getElem?_getD,List.getElem?_eq_getElem (by simp; omega)];simp
  have hcall:=qjM (v8:=v8) (v36:=v36) (v5:=v5) (v12:=v12) (v9:=v9) hrs (fun i v l hi=>(hrw i v l hi).1) hnb hnl (by omega) Sn (List.replicate Sn false) sn (by simp) (by omega) hget0 (by omega);have hvl:=qey (qeO E) Sn (List.replicate Sn false) sn;rw [List.length_replicate] at hvl;generalize hvs:qcy (qeO E) Sn (List.replicate Sn false) sn=vs at hcall hvl;refine zaa rfl fun K hK=>bv rfl (qaf ty83 rfl rfl (qaj rfl rfl)) (mv rfl rfl ?_);refine b_op rfl (qdd rfl rfl rfl rfl (hcall.mono fun r H' he=>?_));obtain ⟨rfl,rfl⟩:=he;refine qab (hK _ (AW.to (qaZ (s':=⟨[(8,.ptr 136008 v8 0)],hR v8 v36 v5 v12 v9 Sn vs rs⟩) ⟨qaP ⟨rfl,trivial⟩,fun _ _ h=>h⟩ ?_)));refine zaa rfl fun K hK=>bv rfl (qaf qgZ rfl rfl (qaj rfl rfl)) (mv rfl rfl ?_);refine qab (hK _ (AW.to (qaZ (s':=⟨[(4,.ar 136036 v36 eBool.k 0 vs.length)],[(136036,v36,.arr eBool.k 4 (eBool.E vs))]⟩) ⟨qaP ⟨by rw [hvl]; rfl,trivial⟩,qcF ⟨rfl,trivial⟩⟩ ?_)));refine AW.to (qgP 2 [(136036,v36,.arr eBool.k 4 (eBool.E vs))] ⟨[(4,slE eBool vs)],[]⟩ ⟨⟨_,rfl,qci eBool (l:=vs) rfl fun _ _=>rfl⟩,trivial⟩ trivial ⟨rfl,trivial⟩ ⟨rfl,trivial⟩ ?_);refine AW.ret ?_;exact qae (.inr rfl) (resT rfl rfl) (by rw [← hvs]; simp [qlp]) (qar fun _ _=>⟨trivial,trivial⟩)
section
variable {P:Program} {s:AS}
end
abbrev FPg (L S:Int) (E:List qaq):HV:=HV.fptr [HV.int .i64 L,HV.int .i64 S,slE eFromLabelTo E] 0
abbrev oRw (v:Nat) (l:List (List Bool)):AObj:=.arr 1 186 ((eSl eBool).E l)
abbrev oLi (l:List Int):AObj:=.arr 1 3 (eInt.E l)
set_option maxHeartbeats 8000000 in
set_option maxRecDepth 100000 in
theorem qfD {p0:qaa} {L:List (List Int)} (h:qb6 p0=some L):qnt Tryz.prog 135 [] [HV.fptr [HV.int .i64 p0.1,HV.int .i64 p0.2.1,slE eFromLabelTo p0.2.2] 0] (L.map fun x=>[slE eInt x]):=by
 unfold qb6 at h;split at h
 case isFalse=>cases h
 rename_i hok
 have h:=Option.some.inj h;have hS:=hok.1
 have hrow0:∀ s:Nat,s<p0.2.1.toNat→qc6 p0 (s:Int)=some (rowR p0 s):=fun s hs=>by
  unfold qc6 rowR;rw [if_pos ⟨hok.1,hok.2.1,⟨by omega,by omega⟩,hok.2.2⟩,Int.toNat_natCast]
 have hne:=fun s (hs:s<p0.2.1.toNat)=>qrw hok hs;obtain ⟨L0,S0,E⟩:=p0;dsimp only at hS hrow0 hne h ⊢;obtain ⟨S,rfl⟩:=Int.eq_ofNat_of_zero_le hS.1;rw [Int.toNat_natCast] at h hrow0 hne
 have hSb:S≤1000:=by omega
 have hlenR:∀ s,(rowR (L0,((S:Int),E)) s).length=S:=fun s=>by rw [qmI]; exact Int.toNat_natCast S
 intro id ver H J Stop K hmn h0 hstep hdone hstop;refine ACall.of_body Tryz.func135 rfl rfl (Nat.le_of_ble_eq_true rfl) ?_;unfold Tryz.f135;dsimp only [qaL,Nat.reduceAdd];refine zaa rfl fun K1 hK=>?_;refine mv rfl rfl ?_;refine qab (hK _ (AW.to (qaZ (s':=⟨[(0,.yl id ver),(1,FPg L0 (S:Int) E),(3,HV.v (.slice none 0 0))],H⟩) (qcY ⟨rfl,rfl,rfl,trivial⟩) ?_)));clear hK K1;have hiF:=qfF H;generalize qht H=iF at hiF;refine AW.seqG (fun s'=>AS.le s' ⟨[(0,.yl id ver),(1,FPg L0 (S:Int) E),(3,slE (eSl eBool) (qcc (L0,((S:Int),E)) S))],H⟩) ?_ ?_
 ·refine zaa rfl fun K1 hK=>?_
  refine bv rfl (qac qfl rfl) ?_;refine bv rfl (qad ty3 rfl (qaj rfl rfl)) ?_;refine mv rfl rfl ?_;refine qab (hK _ (AW.to (qaZ (s':=⟨[(0,.yl id ver),(1,FPg L0 (S:Int) E),(3,HV.v (.slice none 0 0)),(9,.int .i64 (S:Int)),(10,.int .i64 0)],H⟩) (qcY ⟨rfl,rfl,rfl,rfl,rfl,trivial⟩) ?_)));clear hK K1;refine AW.to (qha iF 3 1 186 rfl fun v0=>?_);refine zaf ?_;refine AW.loopS (fun p:Nat × Nat=>⟨[(0,.yl id ver),(1,FPg L0 (S:Int) E),(3,.ar iF p.2 1 0 (qcc (L0,((S:Int),E)) p.1).length),(9,.int .i64 (S:Int)),(10,.int .i64 (p.1:Int))],(iF,p.2,oRw p.2 (qcc (L0,((S:Int),E)) p.1))::H⟩) (fun p=>p.1≤S) (fun p=>S - p.1) (0,v0) ⟨qaP ⟨rfl,rfl,rfl,rfl,rfl,trivial⟩,qmj⟩ (Nat.zero_le _) ?_
  rintro ⟨i,v⟩ hi
  dsimp only at hi ⊢
  have hnxt:IntKind.wrap .i64 ((i:Int)+1)=((i+1:Nat):Int):=by rw [w64 (by omega) (by omega)]; omega
  have hrl:(qcc (L0,((S:Int),E)) i).length=i:=by unfold qcc; rw [List.length_map,List.length_range]
  refine zaa rfl fun K1 hK=>?_;refine bv rfl (qag rfl rfl qaF) ?_;refine qab (hK _ (AW.to (qaZ (s':=⟨[(0,.yl id ver),(1,FPg L0 (S:Int) E),(3,.ar iF v 1 0 (qcc (L0,((S:Int),E)) i).length),(9,.int .i64 (S:Int)),(10,.int .i64 (i:Int)),(11,.bool (decide ((i:Int)<(S:Int))))],(iF,v,oRw v (qcc (L0,((S:Int),E)) i))::H⟩) (qcY ⟨rfl,rfl,rfl,rfl,rfl,rfl,trivial⟩) ?_)));clear hK K1;refine zak rfl (fun hc=>?_) (fun hc=>?_)
  ·have hc:=of_decide_eq_true hc
   have his:i<S:=by omega
   have hrs:qcc (L0,((S:Int),E)) (i+1)=qcc (L0,((S:Int),E)) i++[rowR (L0,((S:Int),E)) i]:=by unfold qcc; rw [List.range_succ,List.map_append]; rfl
   refine zac ?_;refine zad (zaf ?_);refine zaa rfl fun K1 hK=>?_;refine mv rfl rfl ?_;refine mv rfl rfl ?_;refine qab (hK _ (AW.to (qaZ (s':=⟨[(0,.yl id ver),(1,FPg L0 (S:Int) E),(3,.ar iF v 1 0 (qcc (L0,((S:Int),E)) i).length),(4,.int .i64 (i:Int)),(9,.int .i64 (S:Int)),(10,.int .i64 (i:Int))],(iF,v,oRw v (qcc (L0,((S:Int),E)) i))::H⟩) (qcY ⟨rfl,rfl,rfl,rfl,rfl,rfl,trivial⟩) ?_)));clear hK K1;have hr:=hrow0 i his;refine zab rfl fun K1 hK=>?_;refine mv rfl rfl ?_;refine bv rfl (qad ty27 rfl (qao rfl (Nat.le_of_ble_eq_true rfl) rfl)) ?_;refine mv rfl rfl ?_;refine b_op rfl (qat rfl rfl rfl rfl (zai (qhL hr)) ?_);refine b_op rfl (qdx rfl rfl (qdp (cs:=[slE eBool (rowR (L0,((S:Int),E)) i)]) qny qgZ rfl rfl rfl rfl rfl) ?_);refine b_op rfl (qeF (eSl eBool) (l:=qcc (L0,((S:Int),E)) i) (m:=[rowR (L0,((S:Int),E)) i]) rfl rfl qny qny qgZ rfl qa6 rfl rfl rfl ⟨by simp; omega,by simp only [maxLen,List.length_singleton]; omega⟩ (fun v2=>?_));refine mv rfl rfl ?_;refine qab (hK _ (AW.to (qaZ (s':=⟨[(0,.yl id ver),(1,FPg L0 (S:Int) E),(3,.ar iF v2 1 0 (qcc (L0,((S:Int),E)) (i+1)).length),(9,.int .i64 (S:Int)),(10,.int .i64 (i:Int))],(iF,v2,oRw v2 (qcc (L0,((S:Int),E)) (i+1)))::H⟩) ⟨qaP ⟨rfl,rfl,by rw [hrs]; rfl,rfl,rfl,trivial⟩,by rw [hrs]; exact qkM⟩ ?_)));clear hK K1;refine zab rfl fun K1 hK=>?_;refine bv rfl (qag rfl rfl qaX) ?_;rw [hnxt];refine mv rfl rfl ?_;refine qab (hK _ ?_);exact ⟨(i+1,v2),by dsimp only; omega,by dsimp only; omega,⟨qaP ⟨rfl,rfl,rfl,rfl,rfl,trivial⟩,fun _ _ h=>h⟩⟩
  have hc:=of_decide_eq_false hc
  obtain rfl:i=S:=by omega
  refine AW.to (qoh 2 [(iF,v,oRw v (qcc (L0,((i:Int),E)) i))] ⟨[(0,.yl id ver),(1,FPg L0 (i:Int) E),(3,slE (eSl eBool) (qcc (L0,((i:Int),E)) i))],H⟩ ⟨⟨_,rfl,rfl⟩,⟨_,rfl,rfl⟩,⟨_,rfl,qci (eSl eBool) qa6 fun _ _=>rfl⟩,trivial⟩ (qfB hiF) (fun j x hx=>?_) (fun j x hx=>?_) ?_)
  ·by_cases e:j=iF
   ·subst e; rw [qa6] at hx ⊢; exact hx
   rw [qaD e] at hx; cases hx
  ·by_cases e:j=iF
   ·subst e; exact hiF
   rw [qaD e] at hx; cases hx
  exact AW.exit ⟨rfl,AS.le_refl _⟩
 intro s0 hle0;refine AW.to (qaZ hle0 ?_);clear hle0 s0 hiF iF;generalize hg:((L0,((S:Int),E)):qaa)=g at *
 have hgS:g.2.1.toNat=S:=by rw [← hg]; exact Int.toNat_natCast S
 have hlenC:∀ n,(qdK g n).length≤n:=fun n=>by
  unfold qdK;rw [List.length_map];exact Nat.le_trans (List.length_filter_le _ _) (by simp)
 refine zaa rfl fun K1 hK=>?_;refine bv rfl (qac qfl rfl) ?_;refine bv rfl (qad ty3 rfl (qaj rfl rfl)) ?_;refine mv rfl rfl ?_;refine qab (hK _ (AW.to (qaZ (s':=⟨[(0,.yl id ver),(1,FPg L0 (S:Int) E),(3,slE (eSl eBool) (qcc g S)),(21,.int .i64 (S:Int)),(22,.int .i64 ((0:Nat):Int))],H⟩) (qcY ⟨rfl,rfl,rfl,rfl,rfl,trivial⟩) ?_)));clear hK K1;refine zaf ?_;refine AW.loopS (fun p:Nat × Heap=>⟨[(0,.yl id ver),(1,FPg L0 (S:Int) E),(3,slE (eSl eBool) (qcc g S)),(21,.int .i64 (S:Int)),(22,.int .i64 (p.1:Int))],p.2⟩) (fun p=>p.1≤S∧J (qdK g p.1).length p.2) (fun p=>S - p.1) (0,H) (AS.le_refl _) ⟨Nat.zero_le _,h0⟩ ?_
 rintro ⟨s,H1⟩ ⟨hs,hj⟩
 dsimp only at hs hj ⊢
 have hnxt:IntKind.wrap .i64 ((s:Int)+1)=((s+1:Nat):Int):=by rw [w64 (by omega) (by omega)]; omega
 refine zaa rfl fun K1 hK=>?_;refine bv rfl (qag rfl rfl qaF) ?_;refine qab (hK _ (AW.to (qaZ (s':=⟨[(0,.yl id ver),(1,FPg L0 (S:Int) E),(3,slE (eSl eBool) (qcc g S)),(21,.int .i64 (S:Int)),(22,.int .i64 (s:Int)),(23,.bool (decide ((s:Int)<(S:Int))))],H1⟩) (qcY ⟨rfl,rfl,rfl,rfl,rfl,rfl,trivial⟩) ?_)));clear hK K1;refine zak rfl (fun hc=>?_) (fun hc=>?_)
 ·have hc:=of_decide_eq_true hc
  have hsS:s<S:=by omega
  have hrw:∀ t,t<S→idx (qcc g S) (t:Int)=some (rowR g t):=fun t ht=>by
   unfold qcc;rw [qgh,List.getElem?_map,List.getElem?_range ht];rfl
  have hrb:∀ t u,u<S→idx (rowR g t) (u:Int)=some ((rowR g t).getD u false):=fun t u hu=>by
   rw [qgh,List.getD_eq_getElem?_getD,List.getElem?_eq_getElem (by rw [hlenR]; exact hu)];rfl
  refine zac ?_;refine zad (zaf ?_);refine zaa rfl fun K1 hK=>?_;refine mv rfl rfl ?_;refine mv rfl rfl ?_;refine qab (hK _ ?_);clear hK K1;refine zaa rfl fun K1 hK=>?_;refine mv rfl rfl ?_;refine qab (hK _ (AW.to (qaZ (s':=⟨[(0,.yl id ver),(1,FPg L0 (S:Int) E),(3,slE (eSl eBool) (qcc g S)),(5,.int .i64 (s:Int)),(6,HV.v (.slice none 0 0)),(21,.int .i64 (S:Int)),(22,.int .i64 (s:Int))],H1⟩) (qcY ⟨rfl,rfl,rfl,rfl,rfl,rfl,rfl,trivial⟩) ?_)));clear hK K1;have hiL:=qfF H1;generalize qht H1=iL at hiL;refine AW.seqG (fun s'=>AS.le s' ⟨[(0,.yl id ver),(1,FPg L0 (S:Int) E),(3,slE (eSl eBool) (qcc g S)),(5,.int .i64 (s:Int)),(6,slE eInt (lstB g s S)),(21,.int .i64 (S:Int)),(22,.int .i64 (s:Int))],H1⟩) ?_ ?_
  ·refine zaa rfl fun K1 hK=>?_
   refine bv rfl (qac qfl rfl) ?_;refine bv rfl (qad ty3 rfl (qaj rfl rfl)) ?_;refine mv rfl rfl ?_;refine qab (hK _ (AW.to (qaZ (s':=⟨[(0,.yl id ver),(1,FPg L0 (S:Int) E),(3,slE (eSl eBool) (qcc g S)),(5,.int .i64 (s:Int)),(6,HV.v (.slice none 0 0)),(21,.int .i64 (S:Int)),(22,.int .i64 (s:Int)),(26,.int .i64 (S:Int)),(27,.int .i64 0)],H1⟩) (qcY ⟨rfl,rfl,rfl,rfl,rfl,rfl,rfl,rfl,rfl,trivial⟩) ?_)));clear hK K1;refine AW.to (qha iL 6 1 3 rfl fun v0=>?_);refine zaf ?_;refine AW.loopS (fun p:Nat × Nat=>⟨[(0,.yl id ver),(1,FPg L0 (S:Int) E),(3,slE (eSl eBool) (qcc g S)),(5,.int .i64 (s:Int)),(6,.ar iL p.2 1 0 (lstB g s p.1).length),(21,.int .i64 (S:Int)),(22,.int .i64 (s:Int)),(26,.int .i64 (S:Int)),(27,.int .i64 (p.1:Int))],(iL,p.2,oLi (lstB g s p.1))::H1⟩) (fun p=>p.1≤S) (fun p=>S - p.1) (0,v0) ⟨qaP ⟨rfl,rfl,rfl,rfl,rfl,rfl,rfl,rfl,rfl,trivial⟩,qmj⟩ (Nat.zero_le _) ?_
   rintro ⟨t,v⟩ ht
   dsimp only at ht ⊢
   have hnxt2:IntKind.wrap .i64 ((t:Int)+1)=((t+1:Nat):Int):=by rw [w64 (by omega) (by omega)]; omega
   have hll:=qkJ g s t;refine zaa rfl fun K1 hK=>?_;refine bv rfl (qag rfl rfl qaF) ?_;refine qab (hK _ (AW.to (qaZ (s':=⟨[(0,.yl id ver),(1,FPg L0 (S:Int) E),(3,slE (eSl eBool) (qcc g S)),(5,.int .i64 (s:Int)),(6,.ar iL v 1 0 (lstB g s t).length),(21,.int .i64 (S:Int)),(22,.int .i64 (s:Int)),(26,.int .i64 (S:Int)),(27,.int .i64 (t:Int)),(28,.bool (decide ((t:Int)<(S:Int))))],(iL,v,oLi (lstB g s t))::H1⟩) (qcY ⟨rfl,rfl,rfl,rfl,rfl,rfl,rfl,rfl,rfl,rfl,trivial⟩) ?_)));clear hK K1;refine zak rfl (fun hc=>?_) (fun hc=>?_)
   ·have hc:=of_decide_eq_true hc
    have htS:t<S:=by omega
    refine zac ?_;refine AW.seqG (fun s'=>∃ v',AS.le s' ⟨[(0,.yl id ver),(1,FPg L0 (S:Int) E),(3,slE (eSl eBool) (qcc g S)),(5,.int .i64 (s:Int)),(6,.ar iL v' 1 0 (lstB g s (t+1)).length),(21,.int .i64 (S:Int)),(22,.int .i64 (s:Int)),(26,.int .i64 (S:Int)),(27,.int .i64 (t:Int))],(iL,v',oLi (lstB g s (t+1)))::H1⟩) (zaf ?_) ?_
    ·refine zaa rfl fun K1 hK=>?_
     refine mv rfl rfl ?_;refine mv rfl rfl ?_;refine qab (hK _ (AW.to (qaZ (s':=⟨[(0,.yl id ver),(1,FPg L0 (S:Int) E),(3,slE (eSl eBool) (qcc g S)),(5,.int .i64 (s:Int)),(6,.ar iL v 1 0 (lstB g s t).length),(7,.int .i64 (t:Int)),(21,.int .i64 (S:Int)),(22,.int .i64 (s:Int)),(26,.int .i64 (S:Int)),(27,.int .i64 (t:Int))],(iL,v,oLi (lstB g s t))::H1⟩) (qcY ⟨rfl,rfl,rfl,rfl,rfl,rfl,rfl,rfl,rfl,rfl,trivial⟩) ?_)));clear hK K1;refine zaa rfl fun K1 hK=>?_;refine mv rfl rfl ?_;refine mv rfl rfl ?_;refine bv rfl (qaI qny qsz rfl rfl (qay (hrw s hsS))) ?_;refine bv rfl (qad qgZ rfl (qaW (eSl eBool) (hrw s hsS) (o:=0) rfl rfl)) ?_;refine mv rfl rfl ?_;refine bv rfl (qaI qgZ qqp rfl rfl (qay (hrb s t htS))) ?_;refine bv rfl (qad ty4 rfl (qaW eBool (hrb s t htS) (o:=0) rfl rfl)) ?_;refine mv rfl rfl ?_
     have fin:∀ b:Bool,b=inC g s t→K1 ⟨[(0,.yl id ver),(1,FPg L0 (S:Int) E),(3,slE (eSl eBool) (qcc g S)),(5,.int .i64 (s:Int)),(6,.ar iL v 1 0 (lstB g s t).length),(7,.int .i64 (t:Int)),(21,.int .i64 (S:Int)),(22,.int .i64 (s:Int)),(26,.int .i64 (S:Int)),(27,.int .i64 (t:Int)),(45,.bool b)],(iL,v,oLi (lstB g s t))::H1⟩:=by
      intro b hb;refine hK _ ?_;clear hK K1;have hls:=qjl g s t;rw [← hb] at hls;refine zae rfl (fun hc=>?_) (fun hc=>?_)
      ·rw [if_pos hc] at hls
       refine zab rfl fun K1 hK=>?_;refine mv rfl rfl ?_;refine mv rfl rfl ?_;refine b_op rfl (qdx rfl rfl (qdp (cs:=[HV.int .i64 (t:Int)]) ty36 ty3 rfl rfl rfl rfl rfl) ?_);refine b_op rfl (qeF eInt (l:=lstB g s t) (m:=[(t:Int)]) rfl rfl ty36 ty36 ty3 rfl qa6 rfl rfl rfl ⟨by simp; omega,by simp only [maxLen,List.length_singleton]; omega⟩ (fun v2=>?_));refine mv rfl rfl ?_;refine qab (hK _ ⟨rfl,v2,?_⟩);rw [hls];exact ⟨qaP ⟨rfl,rfl,rfl,rfl,rfl,rfl,rfl,rfl,rfl,trivial⟩,qkM⟩
      rw [if_neg (by rw [hc]; decide)] at hls;refine zac ⟨rfl,v,?_⟩;rw [hls];exact ⟨qaP ⟨rfl,rfl,rfl,rfl,rfl,rfl,rfl,rfl,rfl,trivial⟩,fun _ _ h=>h⟩
     by_cases hb:(rowR g s).getD t false=true
     ·refine b_T rfl rfl rfl rfl hb (qai rfl (qaE rfl rfl).2 ?_)
      refine b_T rfl rfl rfl rfl rfl (qai rfl (qaE rfl rfl).2 ?_);refine b_T rfl rfl rfl rfl rfl (qai rfl (qaI qny qsz rfl rfl (qay (hrw t htS))) ?_);refine b_T rfl rfl rfl rfl rfl (qai rfl (qad qgZ rfl (qaW (eSl eBool) (hrw t htS) (o:=0) rfl rfl)) ?_);refine b_T rfl rfl rfl rfl rfl (qai rfl (qaE rfl rfl).2 ?_);refine b_T rfl rfl rfl rfl rfl (qai rfl (qaI qgZ qqp rfl rfl (qay (hrb t s hsS))) ?_);refine b_T rfl rfl rfl rfl rfl (qai rfl (qad ty4 rfl (qaW eBool (hrb t s hsS) (o:=0) rfl rfl)) ?_);refine bv rfl (qan rfl rfl rfl) ?_;refine qaG (s':=⟨[(0,.yl id ver),(1,FPg L0 (S:Int) E),(3,slE (eSl eBool) (qcc g S)),(5,.int .i64 (s:Int)),(6,.ar iL v 1 0 (lstB g s t).length),(7,.int .i64 (t:Int)),(21,.int .i64 (S:Int)),(22,.int .i64 (s:Int)),(26,.int .i64 (S:Int)),(27,.int .i64 (t:Int)),(45,.bool ((rowR g t).getD s false))],(iL,v,oLi (lstB g s t))::H1⟩) (qcY ⟨rfl,rfl,rfl,rfl,rfl,rfl,rfl,rfl,rfl,rfl,rfl,trivial⟩) ?_;exact qab (fin _ (by unfold inC; rw [hb,Bool.true_and]))
     have hb:(rowR g s).getD t false=false:=by simpa using hb
     refine b_F rfl rfl rfl rfl rfl hb ?_;refine b_F rfl rfl rfl rfl rfl rfl ?_;refine b_F rfl rfl rfl rfl rfl rfl ?_;refine b_F rfl rfl rfl rfl rfl rfl ?_;refine b_F rfl rfl rfl rfl rfl rfl ?_;refine b_F rfl rfl rfl rfl rfl rfl ?_;refine b_F rfl rfl rfl rfl rfl rfl ?_;refine bv rfl (qau rfl rfl rfl) ?_;refine qaG (s':=⟨[(0,.yl id ver),(1,FPg L0 (S:Int) E),(3,slE (eSl eBool) (qcc g S)),(5,.int .i64 (s:Int)),(6,.ar iL v 1 0 (lstB g s t).length),(7,.int .i64 (t:Int)),(21,.int .i64 (S:Int)),(22,.int .i64 (s:Int)),(26,.int .i64 (S:Int)),(27,.int .i64 (t:Int)),(45,.bool false)],(iL,v,oLi (lstB g s t))::H1⟩) (qcY ⟨rfl,rfl,rfl,rfl,rfl,rfl,rfl,rfl,rfl,rfl,rfl,trivial⟩) ?_;exact qab (fin _ (by unfold inC; rw [hb,Bool.false_and]))
    rintro s2 ⟨v2,hle2⟩
    refine AW.to (qaZ hle2 ?_);refine zab rfl fun K1 hK=>?_;refine bv rfl (qag rfl rfl qaX) ?_;rw [hnxt2];refine mv rfl rfl ?_;refine qab (hK _ ?_);exact ⟨(t+1,v2),by dsimp only; omega,by dsimp only; omega,⟨qaP ⟨rfl,rfl,rfl,rfl,rfl,rfl,rfl,rfl,rfl,trivial⟩,fun _ _ h=>h⟩⟩
   have hc:=of_decide_eq_false hc
   obtain rfl:t=S:=by omega
   refine AW.to (qoh 2 [(iL,v,oLi (lstB g s t))] ⟨[(0,.yl id ver),(1,FPg L0 (t:Int) E),(3,slE (eSl eBool) (qcc g t)),(5,.int .i64 (s:Int)),(6,slE eInt (lstB g s t)),(21,.int .i64 (t:Int)),(22,.int .i64 (s:Int))],H1⟩ ⟨⟨_,rfl,rfl⟩,⟨_,rfl,rfl⟩,⟨_,rfl,rfl⟩,⟨_,rfl,rfl⟩,⟨_,rfl,qci eInt qa6 fun _ _=>rfl⟩,⟨_,rfl,rfl⟩,⟨_,rfl,rfl⟩,trivial⟩ (qfB hiL) (fun j x hx=>?_) (fun j x hx=>?_) ?_)
   ·by_cases e:j=iL
    ·subst e; rw [qa6] at hx ⊢; exact hx
    rw [qaD e] at hx; cases hx
   ·by_cases e:j=iL
    ·subst e; exact hiL
    rw [qaD e] at hx; cases hx
   exact AW.exit ⟨rfl,AS.le_refl _⟩
  intro s1 hle1;refine AW.to (qaZ hle1 ?_);clear hle1 s1 hiL iL;have hnes:=hne s hsS;obtain ⟨x0,hx0⟩:=hnes;have hix:idx (lstB g s S) (0:Int)=some x0:=hx0
  have hhd:(lstB g s S).head?=some x0:=by rw [List.head?_eq_getElem?]; exact hx0
  have hcs:=qhX g s;rw [hgS,hhd] at hcs;refine zaa rfl fun K1 hK=>?_;refine mv rfl rfl ?_;refine bv rfl (qaI ty36 es36 rfl rfl (qay hix)) ?_;refine bv rfl (qad ty3 rfl (qaW eInt hix (o:=0) rfl rfl)) ?_;refine mv rfl rfl ?_;refine bv rfl (qag rfl rfl qdT) ?_;refine mv rfl rfl ?_;by_cases hx:x0=(s:Int)
  ·rw [if_pos (by rw [hx])] at hcs
   refine b_T rfl rfl rfl rfl (decide_eq_true hx) (qai rfl (qaE rfl rfl).2 ?_);refine b_T rfl rfl rfl rfl rfl (qai rfl (qaE rfl rfl).2 ?_);refine b_T rfl rfl rfl rfl rfl (qoF (hs:=[slE eInt (lstB g s S)]) rfl rfl rfl ?_);obtain ⟨l2,hl2⟩:=qpe g (show s+1≤S by omega);refine (hstep (qdK g s).length [slE eInt (lstB g s S)] _ ?_ hj).mono ?_
   ·rw [← h,List.getElem?_map,hl2,hcs,List.append_assoc,List.getElem?_append_right (Nat.le_refl _),Nat.sub_self]
    rfl
   rintro r H2 ⟨b,rfl,h3,h4⟩
   refine b_T rfl rfl rfl rfl rfl (qai rfl (qdX rfl) ?_);refine bv rfl (qan rfl rfl rfl) ?_;refine qab (hK _ (AW.to (qaZ (s':=⟨[(0,.yl id ver),(1,FPg L0 (S:Int) E),(3,slE (eSl eBool) (qcc g S)),(21,.int .i64 (S:Int)),(22,.int .i64 (s:Int)),(61,.bool (!b))],H2⟩) (qcY ⟨rfl,rfl,rfl,rfl,rfl,rfl,trivial⟩) ?_)));clear hK K1;refine zae rfl (fun hc=>?_) (fun hc=>?_)
   ·have hb:b=false:=by simpa using hc
    refine AW.ret ⟨.inr rfl,?_⟩;simp only [go_sem,reduceIte,Nat.reduceEqDiff];exact ⟨_,_,Conv.refl _ _,hstop _ (h4 hb)⟩
   have hb:b=true:=by simpa using hc
   refine zac ?_;refine zab rfl fun K1 hK=>?_;refine bv rfl (qag rfl rfl qaX) ?_;rw [hnxt];refine mv rfl rfl ?_;refine qab (hK _ ?_);refine ⟨(s+1,H2),⟨by dsimp only; omega,?_⟩,by dsimp only; omega,⟨qaP ⟨rfl,rfl,rfl,rfl,rfl,trivial⟩,fun _ _ h=>h⟩⟩;have:=h3 hb;rw [hcs,List.length_append];exact this
  rw [if_neg (fun e=>hx (Option.some.inj e))] at hcs;refine b_F rfl rfl rfl rfl rfl (decide_eq_false hx) ?_;refine b_F rfl rfl rfl rfl rfl rfl ?_;refine b_F rfl rfl rfl rfl rfl rfl ?_;refine b_F rfl rfl rfl rfl rfl rfl ?_;refine bv rfl (qau rfl rfl rfl) ?_;refine qab (hK _ (AW.to (qaZ (s':=⟨[(0,.yl id ver),(1,FPg L0 (S:Int) E),(3,slE (eSl eBool) (qcc g S)),(21,.int .i64 (S:Int)),(22,.int .i64 (s:Int)),(61,.bool false)],H1⟩) (qcY ⟨rfl,rfl,rfl,rfl,rfl,rfl,trivial⟩) ?_)));clear hK K1;refine zae rfl (fun hc=>by cases hc) (fun _=>?_);refine zac ?_;refine zab rfl fun K1 hK=>?_;refine bv rfl (qag rfl rfl qaX) ?_;rw [hnxt];refine mv rfl rfl ?_;refine qab (hK _ ?_);refine ⟨(s+1,H1),⟨by dsimp only; omega,?_⟩,by dsimp only; omega,⟨qaP ⟨rfl,rfl,rfl,rfl,rfl,trivial⟩,fun _ _ h=>h⟩⟩;dsimp only;rw [hcs];exact hj
 have hc:=of_decide_eq_false hc
 obtain rfl:s=S:=by omega
 refine AW.exit ?_;refine ⟨.inl rfl,?_⟩;simp only [go_sem,reduceIte,Nat.reduceEqDiff];refine ⟨_,_,Conv.refl _ _,hdone _ ?_⟩;rw [List.length_map,← h];exact hj
end Go.AW
namespace Go.Proofs
open Go
def zav:Go.Shelf.Ren:=⟨fun | 105=>71 | 212=>103 | 99=>89 | 165=>35 | 166=>27 | 170=>104 | 169=>32 | 263=>117 | 264=>118 | 206=>109 | 240=>61 | 241=>64 | 276=>91 | 277=>97 | n=>n,fun | 9=>9 | 3=>3 | 4=>4 | 20=>20 | 0=>0 | 46=>154 | 109=>155 | 5=>5 | 72=>69 | 76=>72 | 51=>168 | 146=>169 | 53=>171 | 148=>172 | 70=>67 | 37=>28 | 75=>71 | 127=>120 | 164=>142 | 80=>80 | n=>n,fun | n=>n⟩
theorem Tryz.strRep:Go.Proofs.Lays.n105 Tryz.prog zav where
 mixed:=by kernel_rfl
 f99:=Tryz.func89.trans (congrArg some (by kernel_rfl))
 f105:=Tryz.func71.trans (congrArg some (by kernel_rfl))
 f165:=Tryz.func35.trans (congrArg some (by kernel_rfl))
 f166:=Tryz.func27.trans (congrArg some (by kernel_rfl))
 f169:=Tryz.func32.trans (congrArg some (by kernel_rfl))
 f170:=Tryz.func104.trans (congrArg some (by kernel_rfl))
 f206:=Tryz.func109.trans (congrArg some (by kernel_rfl))
 f212:=Tryz.func103.trans (congrArg some (by kernel_rfl))
 f240:=Tryz.func61.trans (congrArg some (by kernel_rfl))
 f241:=Tryz.func64.trans (congrArg some (by kernel_rfl))
 f263:=Tryz.func117.trans (congrArg some (by kernel_rfl))
 f264:=Tryz.func118.trans (congrArg some (by kernel_rfl))
 f276:=Tryz.func91.trans (congrArg some (by kernel_rfl))
 f277:=Tryz.func97.trans (congrArg some (by kernel_rfl))
 t0:=Tryz.underlying0
 a0:=Tryz.isAgg0
 z0:=Tryz.sizeOf0
 v0:=Tryz.zeroValue0
 t3:=Tryz.underlying3
 a3:=Tryz.isAgg3
 z3:=Tryz.sizeOf3
 v3:=Tryz.zeroValue3
 t4:=Tryz.underlying4
 a4:=Tryz.isAgg4
 z4:=Tryz.sizeOf4
 v4:=Tryz.zeroValue4
 t5:=Tryz.underlying5
 a5:=Tryz.isAgg5
 z5:=Tryz.sizeOf5
 v5:=Tryz.zeroValue5
 t9:=Tryz.underlying9
 a9:=Tryz.isAgg9
 z9:=Tryz.sizeOf9
 v9:=Tryz.zeroValue9
 t20:=Tryz.underlying20
 a20:=Tryz.isAgg20
 z20:=Tryz.sizeOf20
 v20:=Tryz.zeroValue20
 t37:=Tryz.underlying28
 a37:=Tryz.isAgg28
 z37:=Tryz.sizeOf28
 v37:=Tryz.zeroValue28
 t46:=Tryz.underlying154
 a46:=Tryz.isAgg154
 z46:=Tryz.sizeOf154
 v46:=Tryz.zeroValue154
 t51:=Tryz.underlying168
 a51:=Tryz.isAgg168
 z51:=Tryz.sizeOf168
 v51:=Tryz.zeroValue168
 t53:=Tryz.underlying171
 a53:=Tryz.isAgg171
 z53:=Tryz.sizeOf171
 v53:=Tryz.zeroValue171
 t70:=Tryz.underlying67
 a70:=Tryz.isAgg67
 z70:=Tryz.sizeOf67
 v70:=Tryz.zeroValue67
 t72:=Tryz.underlying69
 a72:=Tryz.isAgg69
 z72:=Tryz.sizeOf69
 v72:=Tryz.zeroValue69
 t75:=Tryz.underlying71
 a75:=Tryz.isAgg71
 z75:=Tryz.sizeOf71
 v75:=Tryz.zeroValue71
 t76:=Tryz.underlying72
 a76:=Tryz.isAgg72
 z76:=Tryz.sizeOf72
 v76:=Tryz.zeroValue72
 t109:=Tryz.underlying155
 a109:=Tryz.isAgg155
 z109:=Tryz.sizeOf155
 v109:=Tryz.zeroValue155
 t127:=Tryz.underlying120
 a127:=Tryz.isAgg120
 z127:=Tryz.sizeOf120
 v127:=Tryz.zeroValue120
 t146:=Tryz.underlying169
 a146:=Tryz.isAgg169
 z146:=Tryz.sizeOf169
 v146:=Tryz.zeroValue169
 t148:=Tryz.underlying172
 a148:=Tryz.isAgg172
 z148:=Tryz.sizeOf172
 v148:=Tryz.zeroValue172
 t164:=Tryz.underlying142
 a164:=Tryz.isAgg142
 z164:=Tryz.sizeOf142
 v164:=Tryz.zeroValue142
end Go.Proofs
namespace Go.Proofs
open Go
theorem Tryz.bldX:Go.Proofs.Builder.Extra Tryz.prog zav where
 sizeBuilder:=by kernel_rfl
 liesBuilder:=by kernel_rfl
 t5:=Tryz.underlying5
 a5:=Tryz.isAgg5
 z5:=Tryz.sizeOf5
 v5:=Tryz.zeroValue5
 infoByte:=by kernel_rfl
 cellsByte:=by kernel_rfl
 sizeByte:=by kernel_rfl
 neB5:=by decide
end Go.Proofs
namespace Go.AW
open Go Go.Proofs Go.Lib
theorem qmN:∀ (s:List UInt8) (n:Nat),Lib.repeatL s n=(List.replicate n s).flatten
 | s,0=>rfl
 | s,n+1=>by rw [List.replicate_succ,List.flatten_cons,← qmN s n]; rfl
theorem qly (s:List UInt8):∀ m:Nat,(List.replicate m s).flatten.length=m*s.length
 | 0=>by simp
 | m+1=>by rw [List.replicate_succ,List.flatten_cons,List.length_append,qly s m,Nat.succ_mul]; omega
theorem qin {s r:List UInt8} {n:Int} (h:qds s n=some r):Pure Tryz.prog 71 [HV.str s,HV.int .i64 n] (· = HV.str r):=by
 unfold qds at h;split at h
 ·rename_i hc
  obtain ⟨h0,h1,h2⟩:=hc;cases h;obtain ⟨m,rfl⟩:=Int.eq_ofNat_of_zero_le h0;simp only [Int.toNat_natCast] at h2 ⊢;refine ⟨qde Tryz.func71 rfl rfl,fun μ w vs hs hr _=>?_⟩;obtain ⟨x,xs,rfl,⟨rfl,hl⟩,y,ys,rfl,⟨rfl,_⟩,hn⟩:=hr;cases hn;refine (Any.strings_Repeat Tryz.strRep Tryz.bldX ⟨s.toArray⟩ m w (by omega) (by simpa [ByteArray.size] using h2)).mono ?_
  rintro e w' ⟨rfl,hbel⟩
  have hg:Grow w w':=⟨⟨hbel.os,hbel.tape,hbel.output⟩,hbel.size,hbel.block⟩;refine ⟨_,.str (List.replicate m s).flatten,[],μ,rfl,⟨rfl,trivial,rfl⟩,hs.grow hg,⟨?_,?_⟩,Evo.grow hs hg⟩
  ·rw [← qmN]
  rw [qly,Nat.mul_comm];simp only [maxLen];omega
 cases h
end Go.AW
namespace Go.AW
open Go Go.Proofs
theorem qpU {vis rest ks:List (List UInt8)} {k:List UInt8} (hp:(vis++rest).Perm ks) (hm:k∈ks) (hk:k ∉ vis):∃ l1 l2,rest=l1++k::l2∧((k::vis)++(l1++l2)).Perm ks:=by
 have hx:k∈rest:=(List.mem_append.1 (hp.mem_iff.2 hm)).resolve_left hk;obtain ⟨l1,l2,rfl⟩:=List.append_of_mem hx;refine ⟨l1,l2,rfl,List.Perm.trans ?_ hp⟩
 have e1:(k::vis)++(l1++l2)=k::((vis++l1)++l2):=by simp
 have e2:vis++(l1++k::l2)=(vis++l1)++k::l2:=by simp
 rw [e1,e2];exact List.perm_middle.symm
theorem qru {vis rest ks:List (List UInt8)} (hn:ks.Nodup) (hp:(vis++rest).Perm ks) (hall:∀ k∈ks,k∈vis):rest=[]:=by
 cases rest with
 | nil=>rfl
 | cons x rest =>
  have h1:=hp.nodup_iff.2 hn;have hx:x∈vis:=hall x (hp.mem_iff.1 (by simp));exact absurd rfl ((List.nodup_append.1 h1).2.2 x hx x (List.mem_cons_self ..))
theorem w127 {f mid mver lid lver:Nat} {es:List (List UInt8 × HV)} {H:Heap} {K:HV→Heap→Prop} (hn:(es.map (·.1)).Nodup) (hne:f*1000+5≠mid) (hm:hget H mid=some (mver,.map es)) (J:Nat→List (List UInt8)→Heap→Prop)
  (hJm:∀ iv vis H,J iv vis H→hget H mid=some (mver,.map es)) (hJi:∀ iv vis H,J iv vis H→∃ cur,hget H (f*1000+5)=some (iv,.iter mid mver vis cur))
  (h0:∀ iv,J iv [] (hset H (f*1000+5) iv (.iter mid mver [] false)))
  (hstep:∀ iv vis k H,J iv vis H→k∈es.map (·.1)→k ∉ vis→vis.length<es.length→YCall Tryz.prog lid lver [.str k] (hset H (f*1000+5) iv (.iter mid mver (k::vis) true)) fun r H'=>r=.bool true∧J iv (k::vis) H')
  (hdone:∀ iv vis H,J iv vis H→vis.Perm (es.map (·.1))→K (.tup []) H):ACall Tryz.prog 102 [.yl lid lver,.fptr [.mp mid mver] 0] H K:=by
 refine ACall.of_body Tryz.func102 rfl rfl (Nat.le_of_ble_eq_true rfl) ?_;unfold Tryz.f102;dsimp only [qaL,Nat.reduceAdd];refine zah (fid:=f) (mt:=[]) [0,5] rfl fun K1 hK1=>?_;simp only [go_sem,reduceIte,Nat.reduceEqDiff,Int.reduceLE,List.getElem?_cons_zero,hm];refine ⟨hne,fun iv=>hK1 _ ?_⟩;clear hK1 K1;refine zaf ?_
 refine AW.loopS (fun p:List (List UInt8) × List (List UInt8) × Heap=>⟨[(0,.yl lid lver),(5,.it (f*1000+5) iv)],p.2.2⟩) (fun p=>(p.1++p.2.1).Perm (es.map (·.1))∧J iv p.1 p.2.2) (fun p=>p.2.1.length) ([],es.map (·.1),_)
  (AS.le_refl _) ⟨List.Perm.refl _,h0 iv⟩ ?_
 rintro ⟨vis,rest,H1⟩ ⟨hp,hj⟩
 dsimp only at hp hj ⊢;have hm1:=hJm _ _ _ hj;obtain ⟨cur,hi1⟩:=hJi _ _ _ hj;refine zah (fid:=f) (mt:=[]) [0,5,7] rfl fun K1 hK1=>?_;simp only [go_sem,reduceIte,Nat.reduceEqDiff,Int.reduceLE,hi1,hm1,List.getElem?_cons_zero];refine ⟨fun hall=>hK1 _ ?_,fun k v hkv hks=>hK1 _ ?_⟩
 ·clear hK1 K1
  have hr:=qru hn hp fun k hk=>by
   obtain ⟨q,hq,rfl⟩:=List.mem_map.1 hk;exact hall q hq
  subst hr;rw [List.append_nil] at hp;refine zak rfl (fun hc=>by cases hc) (fun _=>?_);refine AW.exit ?_;refine ⟨.inl rfl,?_⟩;simp only [go_sem,reduceIte,Nat.reduceEqDiff];exact ⟨_,_,Conv.refl _ _,hdone _ _ _ hj hp⟩
 clear hK1 K1;have hk:k∈es.map (·.1):=List.mem_map.2 ⟨_,hkv,rfl⟩;obtain ⟨l1,l2,rfl,hp'⟩:=qpU hp hk hks;refine zak rfl (fun _=>?_) (fun hc=>by cases hc);refine zac ?_;refine zaf ?_;refine zah (fid:=f) (mt:=[]) [0,3,5] rfl fun K1 hK1=>?_;simp only [go_sem,reduceIte,Nat.reduceEqDiff,Int.reduceLE,qap,hm1,if_neg (Ne.symm hne),List.getElem?_cons_zero];refine ⟨v,qhC hn hkv,hK1 _ ?_⟩;clear hK1 K1;refine zah (fid:=f) (mt:=[]) [0,5,13] rfl fun K1 hK1=>?_;simp only [go_sem,reduceIte,Nat.reduceEqDiff,Int.reduceLE];refine (hstep iv vis k H1 hj hk hks (by have:=hp.length_eq; simp at this; omega)).mono ?_
 rintro r H2 ⟨rfl,hj2⟩
 simp only [go_sem,reduceIte,Nat.reduceEqDiff,Int.reduceLE];refine hK1 _ ?_;clear hK1 K1;refine zae rfl (fun hc=>by cases hc) (fun _=>?_);refine zac ?_;exact ⟨(k::vis,l1++l2,H2),⟨hp',hj2⟩,by simp,⟨qaP ⟨rfl,rfl,trivial⟩,fun _ _ h=>h⟩⟩
theorem zaV {P:Program} {N:Nat} {s:AS} {Q:Exit→AS→Prop} {g:Operand} {ps:Array Tmp} {assign body:Code} {f:FuncId} {fs cs:List HV} (id:Nat) (hg:s.ev g=some (.fn (.func f) fs cs))
  (h:∀ fn ver (L:LoopState→Option Code→AObj),(∀ st pend,L st pend=.loop st pend fn N s.slots ps assign body)→ACall P f (fs++[.yl id ver]++cs) (hset s.heap id ver (L .ready none)) fun _ H' =>
   ∃ st pend,hget H' id=some (ver,L st pend)∧st ≠ .busy∧match pend with
    | none=>Q .normal { s with heap:=hset H' id ver (L .exhausted none) }
    | some c=>AW P none N c Q { s with heap:=hset H' id ver (L .exhausted (some c)) }) :
  AW P none N (.rangeFunc g ps assign body) Q s :=
 AW.rangeFunc id hg fun fn ver=>h fn ver (fun st pend=>.loop st pend fn N s.slots ps assign body) fun _ _=>rfl
set_option maxHeartbeats 1000000 in
theorem w160 {f mid mver:Nat} {es:List (List UInt8 × HV)} (hn:(es.map (·.1)).Nodup) (hbig:es.length≤1099511627776) (h2:f*1000+2≠mid) (h5:f*1000+5≠mid) (h11:f*1000+11≠mid) (h9:f*1000+900≠mid) :
  ACall Tryz.prog 115 [.v (.slice none 0 0),.fn (.func 102) [] [.fptr [.mp mid mver] 0]] [(mid,mver,.map es)] fun r H'=>∃ l,l.Perm (es.map (·.1))∧((l=[]∧r=.v (.slice none 0 0)∧H'=[]) ∨
   ∃ id av,l≠[]∧r=.ar id av 1 0 l.length∧H'=[(id,av,.arr 1 9 (l.map .str))]):=by
 refine ACall.of_body Tryz.func115 rfl rfl (Nat.le_of_ble_eq_true rfl) ?_;unfold Tryz.f115;dsimp only [qaL,Nat.reduceAdd];refine zah (fid:=f) (mt:=[2]) [1,2] rfl fun K hK=>?_;simp only [go_sem,reduceIte,Nat.reduceEqDiff,Int.reduceLE,h2];intro bv;refine hK _ ?_;clear hK K;refine zad ?_;refine zah (fid:=f) (mt:=[2]) [2,6] rfl fun K hK=>?_;simp only [go_sem,reduceIte,Nat.reduceEqDiff,Int.reduceLE];refine hK _ ?_;clear hK K;refine zaf ?_
 have n95:f*1000+900≠f*1000+5:=by simp
 have n92:f*1000+900≠f*1000+2:=by simp
 have n911:f*1000+900≠f*1000+11:=by simp
 have n52:f*1000+5≠f*1000+2:=by simp
 have n511:f*1000+5≠f*1000+11:=by simp
 have n112:f*1000+11≠f*1000+2:=by simp
 refine zaV (f*1000+900) rfl fun fn lver L hL=>?_;dsimp only [List.length_cons,List.length_nil,Nat.reduceAdd] at hL ⊢
 refine w127 (f:=f) hn h5 (by rw [qap,if_neg (Ne.symm h9)]; exact qda) (fun iv vis H=>hget H mid=some (mver,.map es)∧(∃ cur,hget H (f*1000+5)=some (iv,.iter mid mver vis cur)) ∧
  hget H (f*1000+900)=some (lver,L .ready none) ∧
  ((vis=[]∧hget H (f*1000+2)=some (bv,.arr 1 22 [.v (.slice none 0 0)])) ∨
   ∃ av,vis≠[]∧hget H (f*1000+2)=some (bv,.arr 1 22 [.ar (f*1000+11) av 1 0 vis.length])∧hget H (f*1000+11)=some (av,.arr 1 9 (vis.reverse.map .str)))) (fun _ _ _ h=>h.1) (fun _ _ _ h=>h.2.1) (fun iv=>?_) ?_ ?_
 ·simp [qap,hget,hset,h2,h5,h9,h11,Ne.symm h2,Ne.symm h5,Ne.symm h9,Ne.symm h11]
 ·rintro iv vis k H1 ⟨hm,⟨cur,hi⟩,hlp,hac⟩ hk hks hlt
  rw [hL] at hlp;refine ⟨_,_,_,_,_,_,(by rw [qap,if_neg n95]; exact hlp),rfl,by simp,fun l=>?_⟩;dsimp only [qi6];refine AW.region (fid:=f) (mt:=[2]) [2,5] rfl fun K hK=>?_;simp only [go_sem,reduceIte,Nat.reduceEqDiff,Int.reduceLE];refine hK _ ?_;clear hK K;refine ⟨rfl,by rw [qap,if_neg n95]; exact hlp,?_⟩;refine zaf ?_
  have fin:∀ (av:Nat) (H2:Heap) (o:AObj),o=L .ready none→hget H2 mid=some (mver,.map es)→hget H2 (f*1000+5)=some (iv,.iter mid mver (k::vis) true) →
    hget H2 (f*1000+2)=some (bv,.arr 1 22 [.ar (f*1000+11) av 1 0 (vis.length+1)])→hget H2 (f*1000+11)=some (av,.arr 1 9 ((k::vis).reverse.map .str)) →
    HV.bool true=.bool true∧hget (hset H2 (f*1000+900) lver o) mid=some (mver,.map es)∧(∃ cur,hget (hset H2 (f*1000+900) lver o) (f*1000+5)=some (iv,.iter mid mver (k::vis) cur)) ∧
  hget (hset H2 (f*1000+900) lver o) (f*1000+900)=some (lver,L .ready none) ∧
  ((k::vis=[]∧hget (hset H2 (f*1000+900) lver o) (f*1000+2)=some (bv,.arr 1 22 [.v (.slice none 0 0)])) ∨
   ∃ av,k::vis≠[]∧hget (hset H2 (f*1000+900) lver o) (f*1000+2)=some (bv,.arr 1 22 [.ar (f*1000+11) av 1 0 (k::vis).length])∧hget (hset H2 (f*1000+900) lver o) (f*1000+11)=some (av,.arr 1 9 ((k::vis).reverse.map .str))):=by
   intro av H2 o ho g1 g2 g4 g5;refine ⟨rfl,?_,⟨true,?_⟩,?_,.inr ⟨av,by simp,?_,?_⟩⟩
   ·rw [qap,if_neg (Ne.symm h9)]; exact g1
   ·rw [qap,if_neg (Ne.symm n95)]; exact g2
   ·rw [qap,if_pos rfl,ho]
   ·rw [qap,if_neg (Ne.symm n92)]; exact g4
   rw [qap,if_neg (Ne.symm n911)]; exact g5
  have hm2:maxLen=9223372036854775807:=rfl
  rcases hac with ⟨rfl,hb⟩ | ⟨av,_,hb,ha⟩
  ·refine AW.region (fid:=f) (mt:=[2]) [2,5] rfl fun K hK=>?_
   simp only [go_sem,reduceIte,Nat.reduceEqDiff,Int.reduceLE,qap,Nat.add_left_cancel_iff,hb,List.getElem?_cons_zero,Nat.add_zero,List.length_nil,List.length_cons,Nat.zero_le,HV.one,zrep,List.replicate_succ,List.replicate_zero,List.flatten_cons,List.flatten_nil,
    List.set_cons_zero,Option.any_some,Nat.reduceAdd,Nat.reduceMul,Nat.reduceLeDiff,Nat.reduceBEq,Bool.or_false,BEq.rfl,List.take_succ_cons,List.take_zero,List.drop_zero]
   refine ⟨by simp [maxLen],fun av'=>hK _ ?_⟩;clear hK K;refine ⟨?_,fin av' _ _ (hL _ _).symm ?_ ?_ ?_ ?_⟩
   ·rw [qap,if_neg n92,qap,if_neg n911,qap,if_pos rfl]
   ·rw [qap,if_neg (Ne.symm h2),qap,if_neg (Ne.symm h11),qap,if_neg (Ne.symm h9),qap,if_neg (Ne.symm h5)]; exact hm
   ·rw [qap,if_neg n52,qap,if_neg n511,qap,if_neg (Ne.symm n95),qap,if_pos rfl]
   ·rw [qap,if_pos rfl]; rfl
   rw [qap,if_neg n112,qap,if_pos rfl]; simp
  refine AW.region (fid:=f) (mt:=[2]) [2,5] rfl fun K hK=>?_
  simp only [go_sem,reduceIte,Nat.reduceEqDiff,Int.reduceLE,qap,Nat.add_left_cancel_iff,hb,ha,List.getElem?_cons_zero,Nat.add_zero,List.length_nil,List.length_cons,Nat.zero_le,HV.one,zrep,List.replicate_succ,List.replicate_zero,List.flatten_cons,List.flatten_nil,
   List.set_cons_zero,Option.any_some,Nat.reduceAdd,Nat.reduceMul,Nat.reduceLeDiff,Nat.reduceBEq,Bool.or_false,BEq.rfl,List.take_succ_cons,List.take_zero,List.drop_zero]
  have hb1:(vis.length+1)*16≤140737488355328:=by clear fin hL hlp; omega
  have hb2:vis.length+1≤maxLen:=by clear fin hL hlp; omega
  refine ⟨by simp,hb1,hb2,fun av'=>hK _ ?_⟩;clear hK K;refine ⟨?_,fin av' _ _ (hL _ _).symm ?_ ?_ ?_ ?_⟩
  ·rw [qap,if_neg n92,qap,if_neg n911,qap,if_pos rfl]
  ·rw [qap,if_neg (Ne.symm h2),qap,if_neg (Ne.symm h11),qap,if_neg (Ne.symm h9),qap,if_neg (Ne.symm h5)]; exact hm
  ·rw [qap,if_neg n52,qap,if_neg n511,qap,if_neg (Ne.symm n95),qap,if_pos rfl]
  ·rw [qap,if_pos rfl]
  rw [qap,if_neg n112,qap,if_pos rfl,List.take_of_length_le (by simp)]; simp
 rintro iv vis H1 ⟨hm,_,hlp,⟨hv0,hb⟩ | ⟨av,hvn,hb,ha⟩⟩ hp
 ·refine ⟨.ready,none,hlp,by simp,?_⟩
  dsimp only [qjz,qd6];clear hL;refine zah (fid:=f) (mt:=[2]) [4] rfl fun K hK=>?_;simp only [go_sem,reduceIte,Nat.reduceEqDiff,Int.reduceLE,qap,Nat.add_left_cancel_iff,hb,List.getElem?_cons_zero];refine hK _ ?_;clear hK K;refine AW.ret ⟨.inr rfl,?_⟩;simp only [go_sem,reduceIte,Nat.reduceEqDiff];exact ⟨_,[],Conv.drop (fun _ _ h=>by cases h),[],hv0 ▸ hp,.inl ⟨rfl,rfl,rfl⟩⟩
 refine ⟨.ready,none,hlp,by simp,?_⟩;dsimp only [qjz,qd6];clear hL;refine zah (fid:=f) (mt:=[2]) [4] rfl fun K hK=>?_;simp only [go_sem,reduceIte,Nat.reduceEqDiff,Int.reduceLE,qap,Nat.add_left_cancel_iff,hb,List.getElem?_cons_zero];refine hK _ ?_;clear hK K;refine AW.ret ⟨.inr rfl,?_⟩;simp only [go_sem,reduceIte,Nat.reduceEqDiff];refine ⟨_,[(f*1000+11,av,.arr 1 9 (vis.reverse.map .str))],Conv.drop (qcF ⟨?_,trivial⟩),vis.reverse,(List.reverse_perm vis).trans hp,.inr ⟨_,av,by simpa using hvn,by rw [List.length_reverse],rfl⟩⟩;rw [qap,if_neg (Ne.symm n911)]; exact ha
def nilS:HV:=.v (.slice none 0 0)
theorem w126 {f mid mver:Nat} {es:List (List UInt8 × HV)} (hn:(es.map (·.1)).Nodup) (hbig:es.length≤1099511627776) (h2:f*1000+2≠mid) (h5:f*1000+5≠mid) (h11:f*1000+11≠mid) (h9:f*1000+900≠mid) :
  ACall Tryz.prog 100 [.fn (.func 102) [] [.fptr [.mp mid mver] 0]] [(mid,mver,.map es)] fun r H'=>∃ l,l.Perm (es.map (·.1))∧((l=[]∧r=.v (.slice none 0 0)∧H'=[]) ∨
   ∃ id av,l≠[]∧r=.ar id av 1 0 l.length∧H'=[(id,av,.arr 1 9 (l.map .str))]):=by
 refine ACall.of_body Tryz.func100 rfl rfl (Nat.le_of_ble_eq_true rfl) ?_;unfold Tryz.f100;dsimp only [qaL,Nat.reduceAdd];refine zah (fid:=f) (mt:=[]) [0] rfl fun K hK=>?_;simp only [go_sem,reduceIte,Nat.reduceEqDiff,Int.reduceLE];refine hK _ ?_;clear hK K;refine zah (fid:=f) (mt:=[]) [2] rfl fun K hK=>?_;simp only [go_sem,reduceIte,Nat.reduceEqDiff,Int.reduceLE];refine (w160 hn hbig h2 h5 h11 h9).mono ?_
 rintro r H' hr
 refine hK _ ?_;clear hK K;refine AW.ret ⟨.inr rfl,?_⟩;simp only [go_sem,reduceIte,Nat.reduceEqDiff];exact ⟨_,_,Conv.refl _ _,hr⟩
theorem w81 {f mid mver:Nat} {es:List (List UInt8 × HV)} (hn:(es.map (·.1)).Nodup) (hbig:es.length≤1099511627776) (h2:f*1000+2≠mid) (h5:f*1000+5≠mid) (h11:f*1000+11≠mid) (h9:f*1000+900≠mid) :
  ACall Tryz.prog 68 [.fn (.func 102) [] [.fptr [.mp mid mver] 0]] [(mid,mver,.map es)] fun r H'=>(es=[]∧r=nilS∧H'=[]) ∨
   ∃ id av,es≠[]∧r=.ar id av 1 0 es.length∧H'=[(id,av,.arr 1 9 ((sortS (es.map (·.1))).map .str))]:=by
 refine ACall.of_body Tryz.func68 rfl rfl (Nat.le_of_ble_eq_true rfl) ?_;unfold Tryz.f68;dsimp only [qaL,Nat.reduceAdd];refine zah (fid:=f) (mt:=[]) [0] rfl fun K hK=>?_;simp only [go_sem,reduceIte,Nat.reduceEqDiff,Int.reduceLE];refine hK _ ?_;clear hK K;refine zah (fid:=f) (mt:=[]) [3] rfl fun K hK=>?_;simp only [go_sem,reduceIte,Nat.reduceEqDiff,Int.reduceLE];refine (w126 hn hbig h2 h5 h11 h9).mono ?_
 rintro r H' ⟨l,hp,⟨rfl,rfl,rfl⟩ | ⟨id,av,hln,rfl,rfl⟩⟩
 ·refine hK _ ?_
  clear hK K
  have he:es=[]:=by
   have:=hp.length_eq;simp only [List.length_nil,List.length_map] at this;exact List.eq_nil_of_length_eq_zero this.symm
  refine zah (fid:=f) (mt:=[]) [3] rfl fun K hK=>?_;simp only [go_sem,reduceIte,Nat.reduceEqDiff,Int.reduceLE];refine w45n ?_;refine hK _ ?_;clear hK K;refine zah (fid:=f) (mt:=[]) [2] rfl fun K hK=>?_;simp only [go_sem,reduceIte,Nat.reduceEqDiff,Int.reduceLE];refine hK _ ?_;clear hK K;refine AW.ret ⟨.inr rfl,?_⟩;simp only [go_sem,reduceIte,Nat.reduceEqDiff];exact ⟨_,_,Conv.refl _ _,.inl ⟨he,rfl,rfl⟩⟩
 refine hK _ ?_;clear hK K;have hlen:=hp.length_eq;rw [List.length_map] at hlen;refine zah (fid:=f) (mt:=[]) [3] rfl fun K hK=>?_;simp only [go_sem,reduceIte,Nat.reduceEqDiff,Int.reduceLE];refine w45 qda (by omega) ?_;simp only [go_sem,reduceIte,Nat.reduceEqDiff,Int.reduceLE];refine hK _ ?_;clear hK K;refine zah (fid:=f) (mt:=[]) [2] rfl fun K hK=>?_;simp only [go_sem,reduceIte,Nat.reduceEqDiff,Int.reduceLE];refine hK _ ?_;clear hK K;refine AW.ret ⟨.inr rfl,?_⟩;simp only [go_sem,reduceIte,Nat.reduceEqDiff];exact ⟨_,_,Conv.refl _ _,.inr ⟨id,av,by rintro rfl; exact hln (List.eq_nil_of_length_eq_zero hlen),by rw [hlen],by rw [qjO hp]⟩⟩
theorem w82 {id ver:Nat} {H:Heap} {K:HV→Heap→Prop} (hK:K (.fn (.func 102) [] [.fptr [.mp id ver] 0]) H):ACall Tryz.prog 69 [.mp id ver] H K:=by
 refine ACall.of_body Tryz.func69 rfl rfl (Nat.le_of_ble_eq_true rfl) ?_;unfold Tryz.f69;dsimp only [qaL,Nat.reduceAdd];refine zah (fid:=82) (mt:=[]) [1] rfl fun K1 hK1=>?_;simp only [go_sem,reduceIte,Nat.reduceEqDiff,Int.reduceLE,HV.one];refine hK1 _ ?_;clear hK1 K1;refine zah (fid:=82) (mt:=[]) [2] rfl fun K1 hK1=>?_;simp only [go_sem,reduceIte,Nat.reduceEqDiff,Int.reduceLE];refine hK1 _ ?_;clear hK1 K1;refine AW.ret ⟨.inr rfl,?_⟩;simp only [go_sem,reduceIte,Nat.reduceEqDiff];exact ⟨_,_,Conv.refl _ _,hK⟩
theorem qj2 {g:qaa} {set:List Int} (h:qmy g set):∃ A:List Int→Prop,A set∧(∀ a c,A a→c∈letters.take g.1.toNat→A (stpM g a c)) ∧
  ∀ a c,A a→c∈letters.take g.1.toNat→Pure Tryz.prog 75 [HV.agg [HV.int .i64 g.1,HV.int .i64 g.2.1,slE eFromLabelTo g.2.2],ints a,.int .u8 c.toNat] (· = ints (stpM g a c)):=by
 obtain ⟨A,h0,hs⟩:=h;refine ⟨A,h0,fun a c ha hc=>?_,fun a c ha hc=>?_⟩
 ·obtain ⟨b,hb,hA⟩:=hs a c ha hc
  simp only [stpM,hb,Option.getD_some];exact hA
 obtain ⟨b,hb,hA⟩:=hs a c ha hc;simp only [stpM,hb,Option.getD_some];exact qf0 hb
theorem qrR {g:qaa} {set:List Int} {n:Int} {x:List WS × Bool} (h:qb3 g set n=some x) (hx:x.2=true) {K:HV→Heap→Prop}
  (hK:∀ id ver es,es.Perm (x.1.map ent)∧(x.1.map (·.1)).Nodup∧x.1.length≤1099511627776→K (.tup [.mp id ver,.bool true]) [(id,ver,.map es)]):ACall Tryz.prog 67 [HV.agg [HV.int .i64 g.1,HV.int .i64 g.2.1,slE eFromLabelTo g.2.2],slE eInt set,.int .i64 n] [] K:=by
 unfold qb3 at h;split at h
 ·rename_i hc
  obtain ⟨h1,h2,h3,h4⟩:=hc;cases h;split at hx
  ·rename_i hok
   rw [if_pos hok] at hK;obtain ⟨A,hA0,hA,hstep⟩:=qj2 h4;obtain ⟨gl,gs,ge⟩:=g
   try dsimp only at h1
   try dsimp only at h2
   try dsimp only at hA
   try dsimp only at hstep
   try dsimp only at hok
   try dsimp only
   try dsimp only at hK
   obtain ⟨L,rfl⟩:=Int.eq_ofNat_of_zero_le h1;obtain ⟨m,rfl⟩:=Int.eq_ofNat_of_zero_le h3;simp only [Int.toNat_natCast] at hok hK hA hstep;refine (w79 (L:=L) (n:=m) (gS:=HV.int .i64 gs) (gE:=slE eFromLabelTo ge) (by omega) rfl rfl hA0 hA hstep).mono ?_
   rintro r H' (⟨hok',id,ver,es,rfl,rfl,hes⟩ | ⟨j,j1,j2,j3,rfl,rfl⟩)
   ·refine hK id ver es ⟨hes,qkF (letters_nodup.sublist (List.take_sublist _ _)) m,?_⟩
    cases m with
    | zero=>simp only [lvl]; split <;> simp
    | succ m=>have:=hok' (m+1) (by omega) (Nat.le_refl _); omega
   have:=qjf.1 hok j j1 j2;omega
  cases hx
 cases h
theorem qrS {g:qaa} {set:List Int} {n:Int} {x:List WS × Bool} (h:qb3 g set n=some x) (hx:¬ x.2=true) {K:HV→Heap→Prop}
  (hK:K (.tup [.v (.map none),.bool false]) []):ACall Tryz.prog 67 [HV.agg [HV.int .i64 g.1,HV.int .i64 g.2.1,slE eFromLabelTo g.2.2],slE eInt set,.int .i64 n] [] K:=by
 unfold qb3 at h;split at h
 ·rename_i hc
  obtain ⟨h1,h2,h3,h4⟩:=hc;cases h;split at hx
  ·exact absurd rfl hx
  rename_i hok
  obtain ⟨A,hA0,hA,hstep⟩:=qj2 h4;obtain ⟨gl,gs,ge⟩:=g
  try dsimp only at h1
  try dsimp only at h2
  try dsimp only at hA
  try dsimp only at hstep
  try dsimp only at hok
  try dsimp only
  obtain ⟨L,rfl⟩:=Int.eq_ofNat_of_zero_le h1;obtain ⟨m,rfl⟩:=Int.eq_ofNat_of_zero_le h3;simp only [Int.toNat_natCast] at hok hA hstep;refine (w79 (L:=L) (n:=m) (gS:=HV.int .i64 gs) (gE:=slE eFromLabelTo ge) (by omega) rfl rfl hA0 hA hstep).mono ?_
  rintro r H' (⟨hok',id,ver,es,rfl,rfl,hes⟩ | ⟨j,j1,j2,j3,rfl,rfl⟩)
  ·exact absurd (qjf.2 hok') hok
  exact hK
 cases h
theorem qlL {id ver:Nat} {es:List (List UInt8 × HV)} {l:List WS} (hes:es.Perm (l.map ent)∧(l.map (·.1)).Nodup∧l.length≤1099511627776) {K:HV→Heap→Prop} (hK:K (slE eStr (sortS (l.map (·.1)))) []) :
  ACall Tryz.prog 68 [.fn (.func 102) [] [.fptr [.mp id ver] 0]] [(id,ver,.map es)] K:=by
 obtain ⟨hp,hn,hb⟩:=hes
 have hlen:es.length=l.length:=by rw [hp.length_eq,List.length_map]
 have hsk:sortS (es.map (·.1))=sortS (l.map (·.1)):=by
  refine qjO ?_;have:=hp.map (·.1);rw [List.map_map] at this;exact this
 refine (w81 (f:=id+1) (qle hp hn) (by omega) (by omega) (by omega) (by omega) (by omega)).conv' ?_
 rintro r H' (⟨he,rfl,rfl⟩ | ⟨id',av,hen,rfl,rfl⟩)
 ·have hl:l=[]:=List.eq_nil_of_length_eq_zero (by rw [← hlen,he]; rfl)
  subst hl;have e0:sortS (([]:List WS).map (·.1))=[]:=List.eq_nil_of_length_eq_zero (by rw [qcq]; rfl);rw [e0] at hK;exact ⟨slE eStr [],[],Conv.le (.nil 1),hK⟩
 refine ⟨_,[],Conv.all 2,?_⟩
 have e:es.length=(sortS (es.map (·.1))).length:=by rw [qcq,List.length_map]
 rw [e];have hf:=qci eStr (D:=[(id',av,.arr 1 9 ((sortS (es.map (·.1))).map .str))]) (l:=sortS (es.map (·.1))) qda (fun _ _=>rfl);have hk2:=hK;rw [← hsk,← hf] at hk2;exact hk2
def qdr (p0 : qaa) (p1:Int) (p2:Int) (p3:Int) (p4:List (Int)):Option (Bool) :=
 (qdO p0).bind fun x1 =>
 if x1=true then
  (qbr).bind fun x3 =>
  some x3
 else
  (qcW p0 (IntKind.wrap .i64 ((Int.tmod (IntKind.wrap .i64 p1) 5)+1)) (Int.tmod (IntKind.wrap .i64 p2) 4) (IntKind.wrap .i64 ((Int.tmod (IntKind.wrap .i64 p3) 6)+1))).bind fun x5 =>
  if x5.2≠0 then
   (qbr).bind fun x8 =>
   some x8
  else
   if 0 ≤ (0 : Int)∧(0:Int)≤min ((p4).length:Int) 8∧min ((p4).length:Int) 8≤(p4.length:Int) then
    (loopW (S:=Int × (List Int)) (X:=(List Int)) (fun a11 =>
        if a11.1<(((p4.take (min ((p4).length:Int) 8).toNat).drop (0:Int).toNat).length:Int) then
         (idx ((p4.take (min ((p4).length:Int) 8).toNat).drop (0:Int).toNat) a11.1).bind fun x15 =>
         if (IntKind.wrap .i64 ((Int.tmod (IntKind.wrap .i64 p3) 6)+1))≠0 then
          if fits 8 ((a11.2:List Int).length+([Int.tmod (IntKind.wrap .i64 x15) (IntKind.wrap .i64 ((Int.tmod (IntKind.wrap .i64 p3) 6)+1))]).length) then
           some (Stp.next (IntKind.wrap .i64 (a11.1+1),a11.2++[Int.tmod (IntKind.wrap .i64 x15) (IntKind.wrap .i64 ((Int.tmod (IntKind.wrap .i64 p3) 6)+1))]))
          else none
         else none
        else
         some (Stp.exit a11.2)) (0,([]:List Int))).bind fun a21 =>
    (qca x5.1 p0 a21).bind fun x23 =>
    if x23.2≠0 then
     jp (fun (a25:Bool) =>
       some a25)
       fun k27 =>
      if x23.2=13 then
       if 2<(((a21).length:Nat):Int) then
        (qbr).bind fun x28 =>
        k27 x28
       else
        k27 false
      else
       k27 false
    else
     (qa5 p0 x23.1).bind fun x32 =>
     (qcI x5.1 x23.1).bind fun x34 =>
     jp (fun (a36:Bool) =>
       if a36=true then
        some false
       else
        jp (fun (a39:Bool) =>
          if a39=true then
           (qbr).bind fun x42 =>
           some x42
          else
           if 0 ≤ (0:Int)∧(0:Int)≤IntKind.wrap .i64 (((x5.1.2).length:Int) - 1)∧IntKind.wrap .i64 (((x5.1.2).length:Int) - 1)≤(x5.1.2.length:Int) then
            (qcu (x5.1.1,(x5.1.2.take (IntKind.wrap .i64 (((x5.1.2).length:Int) - 1)).toNat).drop (0:Int).toNat) p0).bind fun x45 =>
            if x45≠0 then
             (qbr).bind fun x47 =>
             some x47
            else
             (qca (x5.1.1,(x5.1.2.take (IntKind.wrap .i64 (((x5.1.2).length:Int) - 1)).toNat).drop (0:Int).toNat) p0 a21).bind fun x49 =>
             (qbK x23.1).bind fun x51 =>
             (qbK x49.1).bind fun x53 =>
             jp (fun (a55:Bool) =>
               some a55)
               fun k57 =>
              if (max (max x49.2 x51.2) x53.2)=0 then
               if (max x51.1 (IntKind.wrap .i64 (0 - x51.1)))≤(max x53.1 (IntKind.wrap .i64 (0 - x53.1))) then
                (qbr).bind fun x58 =>
                k57 x58
               else
                k57 false
              else
               k57 false
           else none)
          fun k41 =>
         if (((a21).length:Nat):Int)≠2 then
          k41 true
         else
          k41 (decide (((x5.1.2).length:Int)<2)))
       fun k38 =>
      if x32.2≠0 then
       k38 true
      else
       if x34.2≠0 then
        k38 true
       else
        if (!x32.1)=true then
         if x23.1≠([]:List UInt8) then
          k38 true
         else
          (qa0 x34.1 a21).bind fun x63 =>
          k38 (!x63)
        else
         (qa0 x34.1 a21).bind fun x66 =>
         k38 (!x66)
   else none
set_option maxHeartbeats 1600000
set_option maxRecDepth 100000
theorem qkm {p0:qaa} {r:Bool} (h:qdO p0=some r):Pure Tryz.prog 6 [gA p0] (· = HV.bool r):=by
 unfold qdO at h;refine zaj Tryz.func6 rfl rfl (lb rfl) fun hf=>?_;unfold Tryz.f6;dsimp only [qaL,Nat.reduceAdd];refine zaa rfl fun K hK=>b_op rfl (qbh rfl rfl rfl ?_);refine mv rfl rfl ?_;refine bf hK ⟨[(1,gF p0)],[]⟩ ?_;refine zag h (S:=Bool) (V:=Unit) (fun a v=>⟨[(2,.bool a)],[]⟩) (fun a1 w2 h=>?_) (fun k3 h=>?_)
 ·obtain rfl:=oi h
  exact AW.ret (qae (.inr rfl) (resT rfl rfl) rfl trivial)
 refine zab rfl fun K hK=>bv rfl (qac qfl rfl) (bv rfl (qad ty3 rfl (qaj rfl rfl)) (bv rfl (qag rfl rfl qbB) (mv rfl rfl ?_)));by_cases hg9:8<p0.2.1
 ·have h:=ifT hg9 h
  refine b_T rfl rfl rfl rfl (decide_eq_true hg9) (qai rfl (qac qfl rfl) ?_);refine b_T rfl rfl rfl rfl rfl (qai rfl (qad ty3 rfl (qaj rfl rfl)) ?_);refine b_T rfl rfl rfl rfl rfl (qai rfl (qag rfl rfl qnZ) ?_);refine bv rfl (qan rfl rfl rfl) (mv rfl rfl ?_);by_cases hg6:p0.2.1≤64
  ·have h:=ifT hg6 h
   refine b_F rfl rfl rfl rfl rfl (decide_eq_true hg6) ?_
   iterate 4 refine b_F rfl rfl rfl rfl rfl rfl ?_
   refine b_U rfl rfl rfl rfl rfl ?_;refine b_U rfl rfl rfl rfl rfl ?_;refine b_U rfl rfl rfl rfl rfl ?_;refine b_U rfl rfl rfl rfl rfl ?_;refine b_F rfl rfl rfl rfl rfl rfl ?_;refine bv rfl (qan rfl rfl rfl) (mv rfl rfl ?_)
   iterate 4 refine b_F rfl rfl rfl rfl rfl rfl ?_
   refine bv rfl (qan rfl rfl rfl) (mv rfl rfl ?_);refine qab (hK _ ?_);exact to_L ⟨true,(),h,rfl⟩
  have h:=ifF hg6 h;refine b_T rfl rfl rfl rfl (decide_eq_false hg6) (qai rfl (qac qea rfl) ?_);refine b_T rfl rfl rfl rfl rfl (qai rfl (qad ty25 rfl (qaj rfl rfl)) ?_);refine b_T rfl rfl rfl rfl rfl (qai rfl (qav rfl rfl ty25 rfl) ?_);refine b_T rfl rfl rfl rfl rfl (qai rfl (qag rfl rfl qbB) ?_);refine b_T rfl rfl rfl rfl rfl (qai rfl (qaE rfl rfl).2 ?_);by_cases hg5:30<((p0.2.2).length:Int)
  ·have h:=ifT hg5 h
   refine b_T rfl rfl rfl rfl (decide_eq_true hg5) (qai rfl (qac qea rfl) ?_);refine b_T rfl rfl rfl rfl rfl (qai rfl (qad ty25 rfl (qaj rfl rfl)) ?_);refine b_T rfl rfl rfl rfl rfl (qai rfl (qav rfl rfl ty25 rfl) ?_);refine b_T rfl rfl rfl rfl rfl (qai rfl (qag rfl rfl qnZ) ?_);refine b_T rfl rfl rfl rfl rfl (qai rfl (qan rfl rfl rfl) ?_);refine bv rfl (qau rfl rfl rfl) (mv rfl rfl ?_);by_cases hg4:((p0.2.2).length:Int)≤1024
   ·have h:=ifT hg4 h
    refine b_F rfl rfl rfl rfl rfl (decide_eq_true hg4) ?_
    iterate 3 refine b_F rfl rfl rfl rfl rfl rfl ?_
    refine bv rfl (qan rfl rfl rfl) (mv rfl rfl ?_);refine qab (hK _ ?_);exact to_L ⟨true,(),h,rfl⟩
   have h:=ifF hg4 h;refine b_T rfl rfl rfl rfl (decide_eq_false hg4) (qai rfl (qac qea rfl) ?_);refine b_T rfl rfl rfl rfl rfl (qai rfl (qad ty25 rfl (qaj rfl rfl)) ?_);refine b_T rfl rfl rfl rfl rfl (qai rfl (qav rfl rfl ty25 rfl) ?_);refine b_T rfl rfl rfl rfl rfl (qai rfl (qag rfl rfl qbB) ?_);refine bv rfl (qau rfl rfl rfl) (mv rfl rfl ?_);refine qab (hK _ ?_);exact to_L ⟨decide (1027<((p0.2.2).length:Int)),(),h,rfl⟩
  have h:=ifF hg5 h;refine b_F rfl rfl rfl rfl rfl (decide_eq_false hg5) ?_
  iterate 3 refine b_F rfl rfl rfl rfl rfl rfl ?_
  refine b_T rfl rfl rfl rfl rfl (qai rfl (qau rfl rfl rfl) ?_);refine bv rfl (qau rfl rfl rfl) (mv rfl rfl ?_);refine b_T rfl rfl rfl rfl rfl (qai rfl (qac qea rfl) ?_);refine b_T rfl rfl rfl rfl rfl (qai rfl (qad ty25 rfl (qaj rfl rfl)) ?_);refine b_T rfl rfl rfl rfl rfl (qai rfl (qav rfl rfl ty25 rfl) ?_);refine b_T rfl rfl rfl rfl rfl (qai rfl (qag rfl rfl qbB) ?_);refine bv rfl (qau rfl rfl rfl) (mv rfl rfl ?_);refine qab (hK _ ?_);exact to_L ⟨decide (1027<((p0.2.2).length:Int)),(),h,rfl⟩
 have h:=ifF hg9 h;refine b_F rfl rfl rfl rfl rfl (decide_eq_false hg9) ?_
 iterate 2 refine b_F rfl rfl rfl rfl rfl rfl ?_
 refine bv rfl (qau rfl rfl rfl) (mv rfl rfl ?_);refine b_T rfl rfl rfl rfl rfl (qai rfl (qac qea rfl) ?_);refine b_T rfl rfl rfl rfl rfl (qai rfl (qad ty25 rfl (qaj rfl rfl)) ?_);refine b_T rfl rfl rfl rfl rfl (qai rfl (qav rfl rfl ty25 rfl) ?_);refine b_T rfl rfl rfl rfl rfl (qai rfl (qag rfl rfl qbB) ?_);refine b_T rfl rfl rfl rfl rfl (qai rfl (qaE rfl rfl).2 ?_);by_cases hg8:30<((p0.2.2).length:Int)
 ·have h:=ifT hg8 h
  refine b_T rfl rfl rfl rfl (decide_eq_true hg8) (qai rfl (qac qea rfl) ?_);refine b_T rfl rfl rfl rfl rfl (qai rfl (qad ty25 rfl (qaj rfl rfl)) ?_);refine b_T rfl rfl rfl rfl rfl (qai rfl (qav rfl rfl ty25 rfl) ?_);refine b_T rfl rfl rfl rfl rfl (qai rfl (qag rfl rfl qnZ) ?_);refine b_T rfl rfl rfl rfl rfl (qai rfl (qan rfl rfl rfl) ?_);refine bv rfl (qau rfl rfl rfl) (mv rfl rfl ?_);by_cases hg7:((p0.2.2).length:Int)≤1024
  ·have h:=ifT hg7 h
   refine b_F rfl rfl rfl rfl rfl (decide_eq_true hg7) ?_
   iterate 3 refine b_F rfl rfl rfl rfl rfl rfl ?_
   refine bv rfl (qan rfl rfl rfl) (mv rfl rfl ?_);refine qab (hK _ ?_);exact to_L ⟨true,(),h,rfl⟩
  have h:=ifF hg7 h;refine b_T rfl rfl rfl rfl (decide_eq_false hg7) (qai rfl (qac qea rfl) ?_);refine b_T rfl rfl rfl rfl rfl (qai rfl (qad ty25 rfl (qaj rfl rfl)) ?_);refine b_T rfl rfl rfl rfl rfl (qai rfl (qav rfl rfl ty25 rfl) ?_);refine b_T rfl rfl rfl rfl rfl (qai rfl (qag rfl rfl qbB) ?_);refine bv rfl (qau rfl rfl rfl) (mv rfl rfl ?_);refine qab (hK _ ?_);exact to_L ⟨decide (1027<((p0.2.2).length:Int)),(),h,rfl⟩
 have h:=ifF hg8 h;refine b_F rfl rfl rfl rfl rfl (decide_eq_false hg8) ?_
 iterate 3 refine b_F rfl rfl rfl rfl rfl rfl ?_
 refine b_T rfl rfl rfl rfl rfl (qai rfl (qau rfl rfl rfl) ?_);refine bv rfl (qau rfl rfl rfl) (mv rfl rfl ?_);refine b_T rfl rfl rfl rfl rfl (qai rfl (qac qea rfl) ?_);refine b_T rfl rfl rfl rfl rfl (qai rfl (qad ty25 rfl (qaj rfl rfl)) ?_);refine b_T rfl rfl rfl rfl rfl (qai rfl (qav rfl rfl ty25 rfl) ?_);refine b_T rfl rfl rfl rfl rfl (qai rfl (qag rfl rfl qbB) ?_);refine bv rfl (qau rfl rfl rfl) (mv rfl rfl ?_);refine qab (hK _ ?_);exact to_L ⟨decide (1027<((p0.2.2).length:Int)),(),h,rfl⟩
theorem qg5 {p0:List UInt8} {c0:List (List UInt8)} {r:Bool} (h:qcN p0 c0=some r):Pure Tryz.prog 81 [.str p0,.fptr [slE eStr c0] 0] (· = HV.bool r):=by
 unfold qcN at h;refine zaj Tryz.func81 rfl rfl (lb rfl) fun hf=>?_;unfold Tryz.f81;dsimp only [qaL,Nat.reduceAdd];refine zaa rfl fun K hK=>mv rfl rfl ?_;refine bf hK ⟨[(0,.str p0),(1,.fptr [slE eStr c0] 0)],[]⟩ ?_;refine zaa rfl fun K hK=>mv rfl rfl (bv rfl (qcb rfl rfl ty9 rfl) (bv rfl (qad ty22 rfl (qaj rfl rfl)) ?_));obtain ⟨x1,h2,h⟩:=bS h;refine bv rfl (qaI ty22 es22 rfl rfl (qay h2)) (bv rfl (qad ty9 rfl (qaW eStr h2 (o:=0) rfl rfl)) (bv rfl (qcb rfl rfl ty9 rfl) (bv rfl (qag rfl rfl qcv) (mv rfl rfl ?_))));refine bf hK ⟨[(3,.bool (decide (((p0).length:Int)≠((x1).length:Int))))],[]⟩ ?_;obtain rfl:=oi h;exact AW.ret (qae (.inr rfl) (resT rfl rfl) rfl trivial)
theorem qfN {p0:List (List UInt8)} {r:Bool} (h:qb9 p0=some r):Pure Tryz.prog 48 [slE eStr p0] (· = HV.bool r):=by
 unfold qb9 at h;refine zaj Tryz.func48 rfl rfl (lb rfl) fun hf=>?_;unfold Tryz.f48;dsimp only [qaL,Nat.reduceAdd];refine zaa rfl fun K hK=>b_op rfl (qbh rfl rfl rfl ?_);refine mv rfl rfl ?_;refine bf hK ⟨[(1,.fptr [slE eStr p0] 0)],[]⟩ ?_;refine zaa rfl fun K hK=>bv rfl (qad ty22 rfl (qaj rfl rfl)) (bv rfl (qeT rfl rfl) ?_);obtain ⟨x1,h2,h⟩:=bS h;refine b_op rfl (qat rfl rfl rfl rfl (zai (qaO h2 (fun _ _ h=>qg5 h))) ?_);refine mv rfl rfl ?_;refine bf hK ⟨[(2,.bool x1)],[]⟩ ?_;obtain rfl:=oi h;exact AW.ret (qae (.inr rfl) (resT rfl rfl) rfl trivial)
theorem qgV {p0:List UInt8} {r:Bool} (h:qcE p0=some r):Pure Tryz.prog 82 [.str p0] (· = HV.bool r):=by
 unfold qcE at h;refine zaj Tryz.func82 rfl rfl (lb rfl) fun hf=>?_;unfold Tryz.f82;dsimp only [qaL,Nat.reduceAdd];refine zaa rfl fun K hK=>mv rfl rfl ?_;refine bf hK ⟨[(0,.str p0)],[]⟩ ?_;refine zaa rfl fun K hK=>mv rfl rfl ?_;obtain ⟨x1,h2,h⟩:=bS h;refine b_op rfl (qat rfl rfl rfl rfl (zai (qeB h2)) ?_);refine mv rfl rfl ?_;obtain ⟨x3,h4,h⟩:=bS h;refine b_op rfl (qat rfl rfl rfl rfl (zai (qeB h4)) ?_);refine bv rfl (qag rfl rfl qaX) (mv rfl rfl (bv rfl (qcb rfl rfl ty9 rfl) (bv rfl (qag rfl rfl qcv) (mv rfl rfl ?_))));refine bf hK ⟨[(2,.bool (decide ((IntKind.wrap .i64 (x1+x3))≠((p0).length:Int))))],[]⟩ ?_;obtain rfl:=oi h;exact AW.ret (qae (.inr rfl) (resT rfl rfl) rfl trivial)
theorem qfb {p0:List (List UInt8)} {r:Bool} (h:qbV p0=some r):Pure Tryz.prog 49 [slE eStr p0] (· = HV.bool r):=by
 unfold qbV at h;refine zaj Tryz.func49 rfl rfl (lb rfl) fun hf=>?_;unfold Tryz.f49;dsimp only [qaL,Nat.reduceAdd];refine zaa rfl fun K hK=>mv rfl rfl ?_;refine bf hK ⟨[(0,slE eStr p0)],[]⟩ ?_;refine zaa rfl fun K hK=>mv rfl rfl ?_;obtain ⟨x1,h2,h⟩:=bS h;refine b_op rfl (qat rfl rfl rfl rfl (zai (qaO h2 (fun _ _ h=>qgV h))) ?_);refine mv rfl rfl ?_;refine bf hK ⟨[(2,.bool x1)],[]⟩ ?_;obtain rfl:=oi h;exact AW.ret (qae (.inr rfl) (resT rfl rfl) rfl trivial)
theorem qfa {p0:List (List UInt8)} {r:Bool} (h:qbU p0=some r):Pure Tryz.prog 50 [slE eStr p0] (· = HV.bool r):=by
 unfold qbU at h;refine zaj Tryz.func50 rfl rfl (lb rfl) fun hf=>?_;unfold Tryz.f50;dsimp only [qaL,Nat.reduceAdd];refine zaa rfl fun K hK=>mv rfl rfl ?_;refine bf hK ⟨[(0,slE eStr p0)],[]⟩ ?_;refine zaa rfl fun K hK=>b_op rfl (qcT (fid:=50) HV.bool 50006 rfl rfl (fun v1=>?_));refine mv rfl rfl ?_;let O1:Nat × Nat × AObj:=(50006,v1,.map (entE HV.bool ([]:List (List UInt8 × Bool))));refine bf hK ⟨[(0,slE eStr p0),(3,.mp 50006 v1)],[O1]⟩ ?_;refine zad ?_;refine zaa rfl fun K hK=>mv rfl rfl (bv rfl (qav rfl rfl ty22 rfl) (mv rfl rfl ?_));let E2:Nat × HV:=(8,hI ((p0).length:Int));let P1:ASf:=fun t H=>⟨(3,.mp 50006 v1)::(7,slE eStr p0)::E2::t,H⟩;refine bf hK (P1 [(9,hI 0)] [O1]) ?_;refine AW.lpR h (by first | exact qa8 | exact qc3) (S:=Int × (List (List UInt8 × Bool))) (V:=Unit) (fun a v=>(P1 [(9,hI a.1)] [(50006,v1,.map (entE HV.bool a.2))])) ?_ (X:=Unit) (W:=Unit) (fun a v=>⟨[],[]⟩) (fun a8 w9 h=>?_) (fun a2 w3 st4 h hr5=> ?_)
 ·exact to_L ⟨(),rfl⟩
 ·refine zaa rfl fun K hK=>mv rfl rfl ?_
  refine bf hK ⟨[(2,.bool false)],[]⟩ ?_;obtain rfl:=oi h;exact AW.ret (qae (.inr rfl) (resT rfl rfl) rfl trivial)
 refine zaa rfl fun K hK=>bv rfl (qag rfl rfl qaF) ?_;let O3:Nat × Nat × AObj:=(50006,v1,.map (entE HV.bool a2.2));refine bf hK (P1 [(9,hI a2.1),(10,.bool (decide (a2.1<((p0).length:Int))))] [O3]) ?_;refine zak rfl (fun hc=>?_) (fun hc=>?_)
 ·obtain ⟨hc,h⟩:=cT hc h
  refine zac ?_;refine zad (zaf ?_);refine zaa rfl fun K hK=>?_;obtain ⟨x6,h7,h⟩:=bS h;refine bv rfl (qaI ty22 es22 rfl rfl (qay h7)) (bv rfl (qad ty9 rfl (qaW eStr h7 (o:=0) rfl rfl)) (mv rfl rfl ?_));let P2:ASf:=fun t H=>⟨(3,.mp 50006 v1)::(5,.str x6)::(7,slE eStr p0)::E2::(9,hI a2.1)::t,O3::H⟩;refine bf hK (P2 [] []) ?_;refine zad ?_;refine zaa rfl fun K hK=>mv rfl rfl (mv rfl rfl ?_);refine b_op rfl (qse (fid:=50) HV.bool (es:=a2.2) (k:=x6) (v:=(qgd x6 a2.2).getD false) rfl qiu ty9 ty4 rfl rfl rfl rfl (qoN rfl) ?_);refine bf hK (P2 [(15,.bool ((qgd x6 a2.2).getD false))] []) ?_;refine zae rfl (fun hc=>?_) (fun hc=>?_)
  ·have h:=ifT hc h
   refine zaa rfl fun K hK=>mv rfl rfl ?_;refine bf hK ⟨[(2,.bool true)],[]⟩ ?_;have h:=hr5 _ h;obtain rfl:=oi h;exact AW.ret (qae (.inr rfl) (resT rfl rfl) rfl trivial)
  have h:=ifF (bF' hc) h;refine zac ?_;refine zab rfl fun K hK=>mv rfl rfl (mv rfl rfl ?_);refine b_op rfl (qhg HV.bool (es:=a2.2) (k:=x6) (v:=true) (.inl rfl) qiu ty9 rfl rfl rfl rfl trivial ?_);refine bf hK (P1 [(9,hI a2.1)] [(50006,v1,.map (entE HV.bool (qiw x6 true a2.2)))]) ?_;refine zab rfl fun K hK=>bv rfl (qag rfl rfl qaX) (mv rfl rfl ?_);refine qab (hK _ ?_);exact to_L ⟨(IntKind.wrap .i64 (a2.1+1),qiw x6 true a2.2),(),h,rfl⟩
 obtain ⟨hc,h⟩:=cF hc h;refine AW.exit ?_;exact to_L ⟨(),(),h,rfl⟩
theorem qgN {p0:qaw} {r:Int} (h:qcL p0=some r):Pure Tryz.prog 17 [jA p0] (· = hI r):=by
 unfold qcL at h;refine zaj Tryz.func17 rfl rfl (lb rfl) fun hf=>?_;unfold Tryz.f17;dsimp only [qaL,Nat.reduceAdd];refine zaa rfl fun K hK=>b_op rfl (qbh rfl rfl rfl ?_);refine mv rfl rfl ?_;refine bf hK ⟨[(1,jF p0)],[]⟩ ?_;refine zad (zaf ?_);refine zag h (S:=Bool) (V:=Unit) (fun a v=>⟨[(1,jF p0),(3,.bool a)],[]⟩) (fun a1 w2 h=>?_) (fun k3 h=>?_)
 ·refine zae rfl (fun hc=>?_) (fun hc=>?_)
  ·have h:=ifT hc h
   refine zaa rfl fun K hK=>mv rfl rfl ?_;refine bf hK ⟨[(2,hI 5)],[]⟩ ?_;obtain rfl:=oi h;exact AW.ret (qae (.inr rfl) (resT rfl rfl) rfl trivial)
  have h:=ifF (bF' hc) h;refine zag h (S:=Bool) (V:=Unit) (fun a v=>⟨[(1,jF p0),(14,.bool a)],[]⟩) (fun a4 w5 h=>?_) (fun k6 h=>?_)
  ·refine zae rfl (fun hc=>?_) (fun hc=>?_)
   ·have h:=ifT hc h
    refine zaa rfl fun K hK=>mv rfl rfl ?_;refine bf hK ⟨[(2,hI 4)],[]⟩ ?_;obtain rfl:=oi h;exact AW.ret (qae (.inr rfl) (resT rfl rfl) rfl trivial)
   have h:=ifF (bF' hc) h;refine zag h (S:=Bool) (V:=Unit) (fun a v=>⟨[(1,jF p0),(25,.bool a)],[]⟩) (fun a7 w8 h=>?_) (fun k9 h=>?_)
   ·refine zae rfl (fun hc=>?_) (fun hc=>?_)
    ·have h:=ifT hc h
     refine zaa rfl fun K hK=>mv rfl rfl ?_;refine bf hK ⟨[(2,hI 11)],[]⟩ ?_;obtain rfl:=oi h;exact AW.ret (qae (.inr rfl) (resT rfl rfl) rfl trivial)
    have h:=ifF (bF' hc) h;refine zag h (S:=Bool) (V:=Unit) (fun a v=>⟨[(1,jF p0),(34,.bool a)],[]⟩) (fun a10 w11 h=>?_) (fun k12 h=>?_)
    ·refine zae rfl (fun hc=>?_) (fun hc=>?_)
     ·have h:=ifT hc h
      refine zaa rfl fun K hK=>mv rfl rfl ?_;refine bf hK ⟨[(2,hI 2)],[]⟩ ?_;obtain rfl:=oi h;exact AW.ret (qae (.inr rfl) (resT rfl rfl) rfl trivial)
     have h:=ifF (bF' hc) h;refine zag h (S:=Bool) (V:=Unit) (fun a v=>⟨[(1,jF p0),(57,.bool a)],[]⟩) (fun a13 w14 h=>?_) (fun k15 h=>?_)
     ·refine zae rfl (fun hc=>?_) (fun hc=>?_)
      ·have h:=ifT hc h
       refine zaa rfl fun K hK=>mv rfl rfl ?_;refine bf hK ⟨[(2,hI 13)],[]⟩ ?_;obtain rfl:=oi h;exact AW.ret (qae (.inr rfl) (resT rfl rfl) rfl trivial)
      have h:=ifF (bF' hc) h;refine zag h (S:=Bool) (V:=Unit) (fun a v=>⟨[(66,.bool a)],[]⟩) (fun a16 w17 h=>?_) (fun k18 h=>?_)
      ·refine zae rfl (fun hc=>?_) (fun hc=>?_)
       ·have h:=ifT hc h
        refine zaa rfl fun K hK=>mv rfl rfl ?_;refine bf hK ⟨[(2,hI 7)],[]⟩ ?_;obtain rfl:=oi h;exact AW.ret (qae (.inr rfl) (resT rfl rfl) rfl trivial)
       have h:=ifF (bF' hc) h;refine zac ?_;refine zaa rfl fun K hK=>mv rfl rfl ?_;refine bf hK ⟨[(2,hI 0)],[]⟩ ?_;obtain rfl:=oi h;exact AW.ret (qae (.inr rfl) (resT rfl rfl) rfl trivial)
      refine zab rfl fun K hK=>bv rfl (qac qdb rfl) (bv rfl (qad ty22 rfl (qaj rfl rfl)) ?_);obtain ⟨x19,h20,h⟩:=bS h;refine b_op rfl (qat rfl rfl rfl rfl (zai (qfa h20)) ?_);refine mv rfl rfl ?_;by_cases hg23:x19=true
      ·have h:=ifT hg23 h
       refine b_F rfl rfl rfl rfl rfl hg23 ?_
       iterate 2 refine b_F rfl rfl rfl rfl rfl rfl ?_
       refine bv rfl (qan rfl rfl rfl) (mv rfl rfl ?_);refine qab (hK _ ?_);exact to_L ⟨true,(),h,rfl⟩
      have h:=ifF hg23 h;refine b_T rfl rfl rfl rfl (bF hg23) (qai rfl (qac qe0 rfl) ?_);refine b_T rfl rfl rfl rfl rfl (qai rfl (qad ty22 rfl (qaj rfl rfl)) ?_);obtain ⟨x21,h22,h⟩:=bS h;refine b_T rfl rfl rfl rfl rfl (qat rfl rfl rfl rfl (zai (qfa h22)) ?_);refine bv rfl (qau rfl rfl rfl) (mv rfl rfl ?_);refine qab (hK _ ?_);exact to_L ⟨x21,(),h,rfl⟩
     refine zab rfl fun K hK=>bv rfl (qac qdb rfl) (bv rfl (qad ty22 rfl (qaj rfl rfl)) ?_);obtain ⟨x24,h25,h⟩:=bS h;refine b_op rfl (qat rfl rfl rfl rfl (zai (qfb h25)) ?_);refine mv rfl rfl ?_;by_cases hg28:x24=true
     ·have h:=ifT hg28 h
      refine b_F rfl rfl rfl rfl rfl hg28 ?_
      iterate 2 refine b_F rfl rfl rfl rfl rfl rfl ?_
      refine bv rfl (qan rfl rfl rfl) (mv rfl rfl ?_);refine qab (hK _ ?_);exact to_L ⟨true,(),h,rfl⟩
     have h:=ifF hg28 h;refine b_T rfl rfl rfl rfl (bF hg28) (qai rfl (qac qe0 rfl) ?_);refine b_T rfl rfl rfl rfl rfl (qai rfl (qad ty22 rfl (qaj rfl rfl)) ?_);obtain ⟨x26,h27,h⟩:=bS h;refine b_T rfl rfl rfl rfl rfl (qat rfl rfl rfl rfl (zai (qfb h27)) ?_);refine bv rfl (qau rfl rfl rfl) (mv rfl rfl ?_);refine qab (hK _ ?_);exact to_L ⟨x26,(),h,rfl⟩
    refine zab rfl fun K hK=>bv rfl (qac qdb rfl) (bv rfl (qad ty22 rfl (qaj rfl rfl)) ?_);obtain ⟨x29,h30,h⟩:=bS h;refine bv rfl (qaI ty22 es22 rfl rfl (qay h30)) (bv rfl (qad ty9 rfl (qaW eStr h30 (o:=0) rfl rfl)) (bv rfl (qcb rfl rfl ty9 rfl) (bv rfl (qag rfl rfl qaF) (mv rfl rfl ?_))));by_cases hg36:((x29).length:Int)<1
    ·have h:=ifT hg36 h
     refine b_F rfl rfl rfl rfl rfl (decide_eq_true hg36) ?_
     iterate 5 refine b_F rfl rfl rfl rfl rfl rfl ?_
     refine bv rfl (qan rfl rfl rfl) (mv rfl rfl ?_)
     iterate 6 refine b_F rfl rfl rfl rfl rfl rfl ?_
     refine bv rfl (qan rfl rfl rfl) (mv rfl rfl ?_);refine qab (hK _ ?_);exact to_L ⟨true,(),h,rfl⟩
    have h:=ifF hg36 h;refine b_T rfl rfl rfl rfl (decide_eq_false hg36) (qai rfl (qac qdb rfl) ?_);refine b_T rfl rfl rfl rfl rfl (qai rfl (qad ty22 rfl (qaj rfl rfl)) ?_);obtain ⟨x31,h32,h⟩:=bS h;refine b_T rfl rfl rfl rfl rfl (qai rfl (qaI ty22 es22 rfl rfl (qay h32)) ?_);refine b_T rfl rfl rfl rfl rfl (qai rfl (qad ty9 rfl (qaW eStr h32 (o:=0) rfl rfl)) ?_);refine b_T rfl rfl rfl rfl rfl (qai rfl (qcb rfl rfl ty9 rfl) ?_);refine b_T rfl rfl rfl rfl rfl (qai rfl (qag rfl rfl qbB) ?_);refine bv rfl (qau rfl rfl rfl) (mv rfl rfl ?_);by_cases hg35:16<((x31).length:Int)
    ·have h:=ifT hg35 h
     refine b_F rfl rfl rfl rfl rfl (decide_eq_true hg35) ?_
     iterate 5 refine b_F rfl rfl rfl rfl rfl rfl ?_
     refine bv rfl (qan rfl rfl rfl) (mv rfl rfl ?_);refine qab (hK _ ?_);exact to_L ⟨true,(),h,rfl⟩
    have h:=ifF hg35 h;refine b_T rfl rfl rfl rfl (decide_eq_false hg35) (qai rfl (qac qe0 rfl) ?_);refine b_T rfl rfl rfl rfl rfl (qai rfl (qad ty22 rfl (qaj rfl rfl)) ?_);obtain ⟨x33,h34,h⟩:=bS h;refine b_T rfl rfl rfl rfl rfl (qai rfl (qaI ty22 es22 rfl rfl (qay h34)) ?_);refine b_T rfl rfl rfl rfl rfl (qai rfl (qad ty9 rfl (qaW eStr h34 (o:=0) rfl rfl)) ?_);refine b_T rfl rfl rfl rfl rfl (qai rfl (qcb rfl rfl ty9 rfl) ?_);refine b_T rfl rfl rfl rfl rfl (qai rfl (qag rfl rfl qbB) ?_);refine bv rfl (qau rfl rfl rfl) (mv rfl rfl ?_);refine qab (hK _ ?_);exact to_L ⟨decide (16<((x33).length:Int)),(),h,rfl⟩
   refine zab rfl fun K hK=>bv rfl (qac qdb rfl) (bv rfl (qad ty22 rfl (qaj rfl rfl)) ?_);obtain ⟨x37,h38,h⟩:=bS h;refine b_op rfl (qat rfl rfl rfl rfl (zai (qfN h38)) ?_);refine mv rfl rfl ?_;by_cases hg41:x37=true
   ·have h:=ifT hg41 h
    refine b_F rfl rfl rfl rfl rfl hg41 ?_
    iterate 2 refine b_F rfl rfl rfl rfl rfl rfl ?_
    refine bv rfl (qan rfl rfl rfl) (mv rfl rfl ?_);refine qab (hK _ ?_);exact to_L ⟨true,(),h,rfl⟩
   have h:=ifF hg41 h;refine b_T rfl rfl rfl rfl (bF hg41) (qai rfl (qac qe0 rfl) ?_);refine b_T rfl rfl rfl rfl rfl (qai rfl (qad ty22 rfl (qaj rfl rfl)) ?_);obtain ⟨x39,h40,h⟩:=bS h;refine b_T rfl rfl rfl rfl rfl (qat rfl rfl rfl rfl (zai (qfN h40)) ?_);refine bv rfl (qau rfl rfl rfl) (mv rfl rfl ?_);refine qab (hK _ ?_);exact to_L ⟨x39,(),h,rfl⟩
  refine zab rfl fun K hK=>bv rfl (qac qdb rfl) (bv rfl (qad ty22 rfl (qaj rfl rfl)) (bv rfl (qav rfl rfl ty22 rfl) (bv rfl (qag rfl rfl qbB) (mv rfl rfl ?_))));by_cases hg42:256<((p0.1).length:Int)
  ·have h:=ifT hg42 h
   refine b_F rfl rfl rfl rfl rfl (decide_eq_true hg42) ?_
   iterate 3 refine b_F rfl rfl rfl rfl rfl rfl ?_
   refine bv rfl (qan rfl rfl rfl) (mv rfl rfl ?_);refine qab (hK _ ?_);exact to_L ⟨true,(),h,rfl⟩
  have h:=ifF hg42 h;refine b_T rfl rfl rfl rfl (decide_eq_false hg42) (qai rfl (qac qe0 rfl) ?_);refine b_T rfl rfl rfl rfl rfl (qai rfl (qad ty22 rfl (qaj rfl rfl)) ?_);refine b_T rfl rfl rfl rfl rfl (qai rfl (qav rfl rfl ty22 rfl) ?_);refine b_T rfl rfl rfl rfl rfl (qai rfl (qag rfl rfl qbB) ?_);refine bv rfl (qau rfl rfl rfl) (mv rfl rfl ?_);refine qab (hK _ ?_);exact to_L ⟨decide (256<((p0.2).length:Int)),(),h,rfl⟩
 refine zab rfl fun K hK=>bv rfl (qac qdb rfl) (bv rfl (qad ty22 rfl (qaj rfl rfl)) (bv rfl (qav rfl rfl ty22 rfl) (bv rfl (qag rfl rfl qdT) (mv rfl rfl ?_))));by_cases hg43:((p0.1).length:Int)=0
 ·have h:=ifT hg43 h
  refine b_F rfl rfl rfl rfl rfl (decide_eq_true hg43) ?_
  iterate 3 refine b_F rfl rfl rfl rfl rfl rfl ?_
  refine bv rfl (qan rfl rfl rfl) (mv rfl rfl ?_);refine qab (hK _ ?_);exact to_L ⟨true,(),h,rfl⟩
 have h:=ifF hg43 h;refine b_T rfl rfl rfl rfl (decide_eq_false hg43) (qai rfl (qac qe0 rfl) ?_);refine b_T rfl rfl rfl rfl rfl (qai rfl (qad ty22 rfl (qaj rfl rfl)) ?_);refine b_T rfl rfl rfl rfl rfl (qai rfl (qav rfl rfl ty22 rfl) ?_);refine b_T rfl rfl rfl rfl rfl (qai rfl (qag rfl rfl qdT) ?_);refine bv rfl (qau rfl rfl rfl) (mv rfl rfl ?_);refine qab (hK _ ?_);exact to_L ⟨decide (((p0.2).length:Int)=0),(),h,rfl⟩
theorem qhJ {p0:List UInt8} {c0:qaa} {r:Bool} (h:qc5 p0 c0=some r):Pure Tryz.prog 19 [.str p0,gF c0] (· = HV.bool r):=by
 unfold qc5 at h;refine zaj Tryz.func19 rfl rfl (lb rfl) fun hf=>?_;unfold Tryz.f19;dsimp only [qaL,Nat.reduceAdd];refine zaa rfl fun K hK=>mv rfl rfl ?_;refine bf hK ⟨[(0,.str p0),(1,gF c0)],[]⟩ ?_;refine zaa rfl fun K hK=>bv rfl (qad ty27 rfl (qao rfl (lb rfl) rfl)) (mv rfl rfl ?_);obtain ⟨x1,h2,h⟩:=bS h;refine b_op rfl (qat rfl rfl rfl rfl (zai (qfc h2)) ?_);refine bv rfl (qdX rfl) (mv rfl rfl ?_);refine bf hK ⟨[(3,.bool (!x1))],[]⟩ ?_;obtain rfl:=oi h;exact AW.ret (qae (.inr rfl) (resT rfl rfl) rfl trivial)
theorem qfZ {p0:qaw} {p1:qaa} {r:Int} (h:qcu p0 p1=some r):Pure Tryz.prog 7 [jA p0,gA p1] (· = hI r):=by
 unfold qcu at h;refine zaj Tryz.func7 rfl rfl (lb rfl) fun hf=>?_;unfold Tryz.f7;dsimp only [qaL,Nat.reduceAdd];refine zaa rfl fun K hK=>b_op rfl (qbh rfl rfl rfl ?_);refine b_op rfl (qbh rfl rfl rfl ?_);refine mv rfl rfl ?_;let P3:ASf:=fun t H=>⟨(2,jF p0)::(3,gF p1)::t,H⟩;refine bf hK (P3 [] []) ?_;refine zad ?_;refine zaa rfl fun K hK=>bv rfl (qad ty27 rfl (qao rfl (lb rfl) rfl)) ?_;obtain ⟨x1,h2,h⟩:=bS h;refine b_op rfl (qat rfl rfl rfl rfl (zai (qc0 h2)) ?_);refine bv rfl (qag rfl rfl qcv) ?_;refine bf hK (P3 [(12,.bool (decide (x1≠0)))] []) ?_;refine zae rfl (fun hc=>?_) (fun hc=>?_)
 ·obtain ⟨hc,h⟩:=cT hc h
  refine zaa rfl fun K hK=>mv rfl rfl ?_;refine bf hK ⟨[(4,hI 1)],[]⟩ ?_;obtain rfl:=oi h;exact AW.ret (qae (.inr rfl) (resT rfl rfl) rfl trivial)
 obtain ⟨hc,h⟩:=cF hc h;refine zac ?_;refine zad ?_;refine zaa rfl fun K hK=>bv rfl (qac qij rfl) (bv rfl (qad ty3 rfl (qaj rfl rfl)) (bv rfl (qag rfl rfl qcv) ?_));refine bf hK (P3 [(15,.bool (decide (p1.1≠2)))] []) ?_;refine zae rfl (fun hc=>?_) (fun hc=>?_)
 ·obtain ⟨hc,h⟩:=cT hc h
  refine zaa rfl fun K hK=>mv rfl rfl ?_;refine bf hK ⟨[(4,hI 12)],[]⟩ ?_;obtain rfl:=oi h;exact AW.ret (qae (.inr rfl) (resT rfl rfl) rfl trivial)
 obtain ⟨hc,h⟩:=cF hc h;refine zac ?_;refine zad ?_;refine zaa rfl fun K hK=>bv rfl (qad ty24 rfl (qao rfl (lb rfl) rfl)) ?_;obtain ⟨x3,h4,h⟩:=bS h;refine b_op rfl (qat rfl rfl rfl rfl (zai (qgN h4)) ?_);refine mv rfl rfl ?_;refine bf hK (P3 [(5,hI x3)] []) ?_;refine zaa rfl fun K hK=>mv rfl rfl (bv rfl (qag rfl rfl qcv) ?_);refine bf hK (P3 [(5,hI x3),(19,.bool (decide (x3≠0)))] []) ?_;refine zae rfl (fun hc=>?_) (fun hc=>?_)
 ·obtain ⟨hc,h⟩:=cT hc h
  refine zaa rfl fun K hK=>mv rfl rfl (mv rfl rfl ?_);refine bf hK ⟨[(4,hI x3)],[]⟩ ?_;obtain rfl:=oi h;exact AW.ret (qae (.inr rfl) (resT rfl rfl) rfl trivial)
 obtain ⟨hc,h⟩:=cF hc h;refine zac ?_;refine zad ?_;refine zaa rfl fun K hK=>bv rfl (qac qdb rfl) (bv rfl (qad ty22 rfl (qaj rfl rfl)) (bv rfl (qeT rfl rfl) ?_));obtain ⟨x5,h6,h⟩:=bS h;refine b_op rfl (qat rfl rfl rfl rfl (zai (qaO h6 (fun _ _ h=>qhJ h))) ?_);refine bf hK (P3 [(24,.bool x5)] []) ?_;refine zae rfl (fun hc=>?_) (fun hc=>?_)
 ·have h:=ifT hc h
  refine zaa rfl fun K hK=>mv rfl rfl ?_;refine bf hK ⟨[(4,hI 13)],[]⟩ ?_;obtain rfl:=oi h;exact AW.ret (qae (.inr rfl) (resT rfl rfl) rfl trivial)
 have h:=ifF (bF' hc) h;refine zac ?_;refine zad ?_;refine zaa rfl fun K hK=>bv rfl (qac qdb rfl) (bv rfl (qad ty22 rfl (qaj rfl rfl)) (bv rfl (qav rfl rfl ty22 rfl) (mv rfl rfl ?_)));let E4:Nat × HV:=(27,hI ((p0.1).length:Int));refine bf hK (P3 [(26,slE eStr p0.1),E4,(28,hI 0)] []) ?_;refine AW.lpR h (by first | exact qa8 | exact qc3) (S:=Int) (V:=Unit) (fun a v=>(P3 [(26,slE eStr p0.1),E4,(28,hI a)] [])) ?_ (X:=Unit) (W:=Unit) (fun a v=>⟨[],[]⟩) (fun a23 w24 h=>?_) (fun a7 w8 st9 h hr10=> ?_)
 ·exact to_L ⟨(),rfl⟩
 ·refine zaa rfl fun K hK=>mv rfl rfl ?_
  refine bf hK ⟨[(4,hI 0)],[]⟩ ?_;obtain rfl:=oi h;exact AW.ret (qae (.inr rfl) (resT rfl rfl) rfl trivial)
 refine zaa rfl fun K hK=>bv rfl (qag rfl rfl qaF) ?_;refine bf hK (P3 [(26,slE eStr p0.1),E4,(28,hI a7),(29,.bool (decide (a7<((p0.1).length:Int))))] []) ?_;refine zak rfl (fun hc=>?_) (fun hc=>?_)
 ·obtain ⟨hc,h⟩:=cT hc h
  refine zac ?_;refine zad (zaf ?_);refine zaa rfl fun K hK=>?_;obtain ⟨x11,h12,h⟩:=bS h;refine bv rfl (qaI ty22 es22 rfl rfl (qay h12)) (bv rfl (qad ty9 rfl (qaW eStr h12 (o:=0) rfl rfl)) (mv rfl rfl ?_));refine bf hK (P3 [(7,.str x11),(26,slE eStr p0.1),E4,(28,hI a7)] []) ?_;refine zaa rfl fun K hK=>bv rfl (qac qdb rfl) (bv rfl (qad ty22 rfl (qaj rfl rfl)) (bv rfl (qav rfl rfl ty22 rfl) (mv rfl rfl ?_)));let E5:Nat × HV:=(34,hI ((p0.1).length:Int));refine bf hK (P3 [(7,.str x11),(26,slE eStr p0.1),E4,(28,hI a7),(33,slE eStr p0.1),E5,(35,hI 0)] []) ?_;refine AW.lpR h (by first | exact qa8 | exact qc3) (S:=Int) (V:=Unit) (fun a v=>(P3 [(7,.str x11),(26,slE eStr p0.1),E4,(28,hI a7),(33,slE eStr p0.1),E5,(35,hI a)] [])) ?_ (X:=Unit) (W:=Unit) (fun a v=>(P3 [(26,slE eStr p0.1),E4,(28,hI a7)] [])) (fun a21 w22 h=>?_) (fun a13 w14 st15 h hr16=> ?_)
  ·exact to_L ⟨(),rfl⟩
  ·refine zab rfl fun K hK=>bv rfl (qag rfl rfl qaX) (mv rfl rfl ?_)
   refine qab (hK _ ?_);exact to_L ⟨IntKind.wrap .i64 (a7+1),(),h,rfl⟩
  refine zaa rfl fun K hK=>bv rfl (qag rfl rfl qaF) ?_;refine bf hK (P3 [(7,.str x11),(26,slE eStr p0.1),E4,(28,hI a7),(33,slE eStr p0.1),E5,(35,hI a13),(36,.bool (decide (a13<((p0.1).length:Int))))] []) ?_;refine zak rfl (fun hc=>?_) (fun hc=>?_)
  ·obtain ⟨hc,h⟩:=cT hc h
   refine zac ?_;refine zad (zaf ?_);refine zaa rfl fun K hK=>?_;obtain ⟨x17,h18,h⟩:=bS h;refine bv rfl (qaI ty22 es22 rfl rfl (qay h18)) (bv rfl (qad ty9 rfl (qaW eStr h18 (o:=0) rfl rfl)) (mv rfl rfl ?_));refine bf hK (P3 [(7,.str x11),(9,.str x17),(26,slE eStr p0.1),E4,(28,hI a7),(33,slE eStr p0.1),E5,(35,hI a13)] []) ?_;refine zaa rfl fun K hK=>bv rfl (qad ty27 rfl (qao rfl (lb rfl) rfl)) (bv rfl (qac qe0 rfl) (bv rfl (qad ty22 rfl (qaj rfl rfl)) (mv rfl rfl (mv rfl rfl ?_))));obtain ⟨x19,h20,h⟩:=bS h;refine b_op rfl (qat rfl rfl rfl rfl (zai (qdM h20)) ?_);refine bv rfl (qdX rfl) ?_;refine bf hK (P3 [(7,.str x11),(26,slE eStr p0.1),E4,(28,hI a7),(33,slE eStr p0.1),E5,(35,hI a13),(45,.bool (!x19))] []) ?_;refine zae rfl (fun hc=>?_) (fun hc=>?_)
   ·have h:=ifT hc h
    refine zaa rfl fun K hK=>mv rfl rfl ?_;refine bf hK ⟨[(4,hI 15)],[]⟩ ?_;have h:=hr16 _ h;have h:=hr10 _ h;obtain rfl:=oi h;exact AW.ret (qae (.inr rfl) (resT rfl rfl) rfl trivial)
   have h:=ifF (bF' hc) h;refine zac ?_;refine zab rfl fun K hK=>bv rfl (qag rfl rfl qaX) (mv rfl rfl ?_);refine qab (hK _ ?_);exact to_L ⟨IntKind.wrap .i64 (a13+1),(),h,rfl⟩
  obtain ⟨hc,h⟩:=cF hc h;refine AW.exit ?_;exact to_L ⟨(),(),h,rfl⟩
 obtain ⟨hc,h⟩:=cF hc h;refine AW.exit ?_;exact to_L ⟨(),(),h,rfl⟩
theorem qg6 {p0:Int} {c0:qaw} {r:Bool} (h:qcO p0 c0=some r):Pure Tryz.prog 60 [hI p0,jF c0] (· = HV.bool r):=by
 unfold qcO at h;refine zaj Tryz.func60 rfl rfl (lb rfl) fun hf=>?_;unfold Tryz.f60;dsimp only [qaL,Nat.reduceAdd];refine zaa rfl fun K hK=>mv rfl rfl ?_;refine bf hK ⟨[(0,hI p0),(1,jF c0)],[]⟩ ?_;refine zag h (S:=Bool) (V:=Unit) (fun a v=>⟨[(3,.bool a)],[]⟩) (fun a1 w2 h=>?_) (fun k3 h=>?_)
 ·obtain rfl:=oi h
  exact AW.ret (qae (.inr rfl) (resT rfl rfl) rfl trivial)
 refine zab rfl fun K hK=>mv rfl rfl (bv rfl (qag rfl rfl qaF) (mv rfl rfl ?_));by_cases hg4:p0<0
 ·have h:=ifT hg4 h
  refine b_F rfl rfl rfl rfl rfl (decide_eq_true hg4) ?_
  iterate 4 refine b_F rfl rfl rfl rfl rfl rfl ?_
  refine bv rfl (qan rfl rfl rfl) (mv rfl rfl ?_);refine qab (hK _ ?_);exact to_L ⟨true,(),h,rfl⟩
 have h:=ifF hg4 h;refine b_T rfl rfl rfl rfl (decide_eq_false hg4) (qai rfl (qaE rfl rfl).2 ?_);refine b_T rfl rfl rfl rfl rfl (qai rfl (qac qdb rfl) ?_);refine b_T rfl rfl rfl rfl rfl (qai rfl (qad ty22 rfl (qaj rfl rfl)) ?_);refine b_T rfl rfl rfl rfl rfl (qai rfl (qav rfl rfl ty22 rfl) ?_);refine b_T rfl rfl rfl rfl rfl (qai rfl (qag rfl rfl qgL) ?_);refine bv rfl (qau rfl rfl rfl) (mv rfl rfl ?_);refine qab (hK _ ?_);exact to_L ⟨decide (((c0.1).length:Int)≤p0),(),h,rfl⟩
theorem qio {p0:qaw} {p1:qaa} {p2:List (Int)} {r:Int} (h:qcH p0 p1 p2=some r):Pure Tryz.prog 25 [jA p0,gA p1,slE eInt p2] (· = hI r):=by
 unfold qcH at h;refine zaj Tryz.func25 rfl rfl (lb rfl) fun hf=>?_;unfold Tryz.f25;dsimp only [qaL,Nat.reduceAdd];refine zaa rfl fun K hK=>b_op rfl (qbh rfl rfl rfl ?_);refine b_op rfl (qbh rfl rfl rfl ?_);refine mv rfl rfl ?_;refine bf hK ⟨[(2,slE eInt p2),(3,jF p0),(4,gF p1)],[]⟩ ?_;refine zad ?_;refine zaa rfl fun K hK=>bv rfl (qad ty24 rfl (qao rfl (lb rfl) rfl)) (bv rfl (qad ty27 rfl (qao rfl (lb rfl) rfl)) ?_);obtain ⟨x1,h2,h⟩:=bS h;refine b_op rfl (qat rfl rfl rfl rfl (zai (qfZ h2)) ?_);refine bv rfl (qag rfl rfl qcv) ?_;refine bf hK ⟨[(2,slE eInt p2),(3,jF p0),(10,.bool (decide (x1≠0)))],[]⟩ ?_;refine zae rfl (fun hc=>?_) (fun hc=>?_)
 ·obtain ⟨hc,h⟩:=cT hc h
  refine zaa rfl fun K hK=>mv rfl rfl ?_;refine bf hK ⟨[(6,hI 1)],[]⟩ ?_;obtain rfl:=oi h;exact AW.ret (qae (.inr rfl) (resT rfl rfl) rfl trivial)
 obtain ⟨hc,h⟩:=cF hc h;refine zac ?_;refine zad ?_;refine zaa rfl fun K hK=>mv rfl rfl (bv rfl (qeT rfl rfl) ?_);obtain ⟨x3,h4,h⟩:=bS h;refine b_op rfl (qat rfl rfl rfl rfl (zai (qcx h4 (fun _ _ h=>qg6 h))) ?_);refine bf hK ⟨[(13,.bool x3)],[]⟩ ?_;refine zae rfl (fun hc=>?_) (fun hc=>?_)
 ·have h:=ifT hc h
  refine zaa rfl fun K hK=>mv rfl rfl ?_;refine bf hK ⟨[(6,hI 2)],[]⟩ ?_;obtain rfl:=oi h;exact AW.ret (qae (.inr rfl) (resT rfl rfl) rfl trivial)
 have h:=ifF (bF' hc) h;refine zac ?_;refine zaa rfl fun K hK=>mv rfl rfl ?_;refine bf hK ⟨[(6,hI 0)],[]⟩ ?_;obtain rfl:=oi h;exact AW.ret (qae (.inr rfl) (resT rfl rfl) rfl trivial)
theorem qeh {p0:List UInt8} {r:Int × Int} (h:qbK p0=some r):Pure Tryz.prog 15 [.str p0] (· = HV.tup [hI r.1,hI r.2]):=by
 unfold qbK at h;refine zaj Tryz.func15 rfl rfl (lb rfl) fun hf=>?_;unfold Tryz.f15;dsimp only [qaL,Nat.reduceAdd];refine zaa rfl fun K hK=>mv rfl rfl (mv rfl rfl ?_);refine bf hK ⟨[(0,.str p0)],[]⟩ ?_;refine zad ?_;refine zaa rfl fun K hK=>mv rfl rfl ?_;obtain ⟨x1,h2,h⟩:=bS h;refine b_op rfl (qat rfl rfl rfl rfl (zai (qeQ h2)) ?_);refine mv rfl rfl ?_;refine bf hK ⟨[(0,.str p0),(4,hI x1)],[]⟩ ?_;refine zaa rfl fun K hK=>mv rfl rfl (bv rfl (qag rfl rfl qcv) ?_);refine bf hK ⟨[(0,.str p0),(4,hI x1),(8,.bool (decide (x1≠0)))],[]⟩ ?_;refine zae rfl (fun hc=>?_) (fun hc=>?_)
 ·obtain ⟨hc,h⟩:=cT hc h
  refine zaa rfl fun K hK=>mv rfl rfl (mv rfl rfl (mv rfl rfl ?_));refine bf hK ⟨[(2,hI 0),(3,hI x1)],[]⟩ ?_;obtain rfl:=oi h;exact AW.ret (qae (.inr rfl) (resT rfl (resT rfl rfl)) rfl ⟨trivial,trivial,trivial⟩)
 obtain ⟨hc,h⟩:=cF hc h;refine zac ?_;refine zaa rfl fun K hK=>mv rfl rfl ?_;obtain ⟨x3,h4,h⟩:=bS h;refine b_op rfl (qat rfl rfl rfl rfl (zai (qeB h4)) ?_);refine bv rfl (qag rfl rfl qpk) (mv rfl rfl (bv rfl (qcb rfl rfl ty9 rfl) (bv rfl (qag rfl rfl qfX) (mv rfl rfl (mv rfl rfl ?_)))));refine bf hK ⟨[(2,hI (IntKind.wrap .i64 ((IntKind.wrap .i64 (2*x3)) - ((p0).length:Int)))),(3,hI 0)],[]⟩ ?_;obtain rfl:=oi h;exact AW.ret (qae (.inr rfl) (resT rfl (resT rfl rfl)) rfl ⟨trivial,trivial,trivial⟩)
theorem qei {p0:List UInt8} {r:Int} (h:qbs p0=some r):Pure Tryz.prog 28 [.str p0] (· = hI r):=by
 unfold qbs at h;refine zaj Tryz.func28 rfl rfl (lb rfl) fun hf=>?_;unfold Tryz.f28;dsimp only [qaL,Nat.reduceAdd];refine zaa rfl fun K hK=>mv rfl rfl ?_;refine bf hK ⟨[(0,.str p0)],[]⟩ ?_;refine zaa rfl fun K hK=>mv rfl rfl ?_;obtain ⟨x1,h2,h⟩:=bS h;refine b_op rfl (qat rfl rfl rfl rfl (zai (qeh h2)) ?_);refine mv rfl rfl (bv rfl (qak rfl rfl) (bv rfl (qak rfl rfl) (mv rfl rfl (mv rfl rfl ?_))));refine bf hK ⟨[(3,hI x1.1)],[]⟩ ?_;refine zaa rfl fun K hK=>mv rfl rfl (mv rfl rfl ?_);refine bf hK ⟨[(2,hI x1.1)],[]⟩ ?_;obtain rfl:=oi h;exact AW.ret (qae (.inr rfl) (resT rfl rfl) rfl trivial)
theorem qe4 {p0:qaa} {p1:List (Int)} {p2:List UInt8} {r:(List (Int))} (h:qbT p0 p1 p2=some r):Pure Tryz.prog 29 [gA p0,slE eInt p1,.str p2] (· = slE eInt r):=by
 unfold qbT at h;refine zaj Tryz.func29 rfl rfl (lb rfl) fun hf=>?_;unfold Tryz.f29;dsimp only [qaL,Nat.reduceAdd];refine zaa rfl fun K hK=>b_op rfl (qbh rfl rfl rfl ?_);refine mv rfl rfl ?_;refine bf hK ⟨[(1,slE eInt p1),(2,.str p2),(3,gF p0)],[]⟩ ?_;refine zad ?_;refine zaa rfl fun K hK=>mv rfl rfl (bv rfl (qcb rfl rfl ty9 rfl) (mv rfl rfl ?_));let E1:Nat × HV:=(9,hI ((p2).length:Int));refine bf hK ⟨[(1,slE eInt p1),(2,.str p2),(3,gF p0),E1,(10,hI 0)],[]⟩ ?_;refine AW.lpX h (by first | exact qa8 | exact qc3) (S:=(List Int) × Int) (V:=Unit) (fun a v=>⟨[(1,slE eInt a.1),(2,.str p2),(3,gF p0),E1,(10,hI a.2)],[]⟩) ?_ (X:=(List Int)) (W:=Unit) (fun a v=>⟨[(1,slE eInt a)],[]⟩) (fun a11 w12 h=>?_) (fun a1 w2 st3 h=>?_)
 ·exact to_L ⟨(),rfl⟩
 ·refine zaa rfl fun K hK=>mv rfl rfl (mv rfl rfl ?_)
  refine bf hK ⟨[(6,slE eInt a11)],[]⟩ ?_;obtain rfl:=oi h;exact AW.ret (qae (.inr rfl) (resT rfl rfl) rfl (qar fun _ _=>⟨trivial,trivial⟩))
 refine zaa rfl fun K hK=>bv rfl (qag rfl rfl qaF) ?_;refine bf hK ⟨[(1,slE eInt a1.1),(2,.str p2),(3,gF p0),E1,(10,hI a1.2),(11,.bool (decide (a1.2<((p2).length:Int))))],[]⟩ ?_;refine zak rfl (fun hc=>?_) (fun hc=>?_)
 ·obtain ⟨hc,h⟩:=cT hc h
  refine zac ?_;refine zad (zaf ?_);refine zaa rfl fun K hK=>mv rfl rfl (mv rfl rfl ?_);refine bf hK ⟨[(1,slE eInt a1.1),(2,.str p2),(3,gF p0),(7,hI a1.2),E1,(10,hI a1.2)],[]⟩ ?_;refine AW.dg 11 follows rfl rfl fun K hK=>?_;refine sv rfl (qad ty27 rfl (qao rfl (lb rfl) rfl)) ?_
  iterate 3 refine sm rfl rfl ?_
  obtain ⟨x5,h6,h⟩:=bS h;refine sv rfl (qen ty9 rfl rfl h6) ?_;obtain ⟨x7,h8,h⟩:=bS h;refine s_op rfl rfl (qaV rfl rfl rfl rfl (zai (qdw h8)) ?_);obtain ⟨x9,h10,h⟩:=bS h;refine s_op rfl rfl (qaV rfl rfl rfl rfl (zai (qh9 h10)) ?_);refine sm rfl rfl ?_;refine sv rfl (qak rfl rfl) ?_;refine sv rfl (qak rfl rfl) ?_;refine sm rfl rfl ?_;refine qb7 ?_;refine bf hK ⟨[(1,slE eInt x9.1),(2,.str p2),(3,gF p0),E1,(10,hI a1.2)],[]⟩ ?_;refine zab rfl fun K hK=>bv rfl (qag rfl rfl qaX) (mv rfl rfl ?_);refine qab (hK _ ?_);exact to_L ⟨(x9.1,IntKind.wrap .i64 (a1.2+1)),(),h,rfl⟩
 obtain ⟨hc,h⟩:=cF hc h;refine AW.exit ?_;exact to_L ⟨a1.1,(),h,rfl⟩
theorem qfO {p0:qaw} {p1:qaa} {p2:List (Int)} {r:(List UInt8) × Int} (h:qca p0 p1 p2=some r):Pure Tryz.prog 9 [jA p0,gA p1,slE eInt p2] (· = HV.tup [.str r.1,hI r.2]):=by
 unfold qca at h;refine zaj Tryz.func9 rfl rfl (lb rfl) fun hf=>?_;unfold Tryz.f9;dsimp only [qaL,Nat.reduceAdd];refine zaa rfl fun K hK=>b_op rfl (qbh rfl rfl rfl ?_);refine b_op rfl (qbh rfl rfl rfl ?_);refine mv rfl rfl (mv rfl rfl ?_);let P1:ASf:=fun t H=>⟨(2,slE eInt p2)::(3,jF p0)::(4,gF p1)::t,H⟩;refine bf hK (P1 [] []) ?_;refine zad ?_;refine zaa rfl fun K hK=>bv rfl (qad ty24 rfl (qao rfl (lb rfl) rfl)) (bv rfl (qad ty27 rfl (qao rfl (lb rfl) rfl)) (mv rfl rfl ?_));obtain ⟨x1,h2,h⟩:=bS h;refine b_op rfl (qat rfl rfl rfl rfl (zai (qio h2)) ?_);refine mv rfl rfl ?_;refine bf hK (P1 [(8,hI x1)] []) ?_;refine zaa rfl fun K hK=>mv rfl rfl (bv rfl (qag rfl rfl qcv) ?_);refine bf hK (P1 [(8,hI x1),(25,.bool (decide (x1≠0)))] []) ?_;refine zae rfl (fun hc=>?_) (fun hc=>?_)
 ·obtain ⟨hc,h⟩:=cT hc h
  refine zaa rfl fun K hK=>mv rfl rfl (mv rfl rfl (mv rfl rfl ?_));refine bf hK ⟨[(6,.str nS),(7,hI x1)],[]⟩ ?_;obtain rfl:=oi h;exact AW.ret (qae (.inr rfl) (resT rfl (resT rfl rfl)) rfl ⟨trivial,trivial,trivial⟩)
 obtain ⟨hc,h⟩:=cF hc h;refine zac ?_;refine zad ?_;refine zaa rfl fun K hK=>mv rfl rfl (bv rfl (qav rfl rfl ty36 rfl) (bv rfl (qag rfl rfl qdT) ?_));refine bf hK (P1 [(29,.bool (decide (((p2).length:Int)=0)))] []) ?_;refine zae rfl (fun hc=>?_) (fun hc=>?_)
 ·obtain ⟨hc,h⟩:=cT hc h
  refine zaa rfl fun K hK=>mv rfl rfl (mv rfl rfl ?_);refine bf hK ⟨[(6,.str nS),(7,hI 0)],[]⟩ ?_;obtain rfl:=oi h;exact AW.ret (qae (.inr rfl) (resT rfl (resT rfl rfl)) rfl ⟨trivial,trivial,trivial⟩)
 obtain ⟨hc,h⟩:=cF hc h;refine zac ?_;refine zao 12 follows rfl rfl fun K hK=>?_;refine sv rfl (qac qdb rfl) ?_;refine sv rfl (qad ty22 rfl (qaj rfl rfl)) ?_;obtain ⟨x3,h4,h⟩:=bS h;refine sv rfl (qaI ty22 es22 rfl rfl (qay h4)) ?_;refine sv rfl (qad ty9 rfl (qaW eStr h4 (o:=0) rfl rfl)) ?_;refine sv rfl (qcb rfl rfl ty9 rfl) ?_;refine sv rfl (qac qe0 rfl) ?_;refine sv rfl (qad ty22 rfl (qaj rfl rfl)) ?_;obtain ⟨x5,h6,h⟩:=bS h;refine sv rfl (qaI ty22 es22 rfl rfl (qay h6)) ?_;refine sv rfl (qad ty9 rfl (qaW eStr h6 (o:=0) rfl rfl)) ?_;refine sv rfl (qcb rfl rfl ty9 rfl) ?_
 iterate 2 refine sm rfl rfl ?_
 refine qb7 ?_;refine bf hK (P1 [(9,hI ((x3).length:Int)),(10,hI ((x5).length:Int))] []) ?_;refine zad ?_;refine zaa rfl fun K hK=>mv rfl rfl (bv rfl (qav rfl rfl ty36 rfl) (mv rfl rfl (bv rfl (qag rfl rfl qaX) (mv rfl rfl (mv rfl rfl ?_)))));refine bv rfl (qag rfl rfl qaX) ?_;obtain ⟨h7,h⟩:=ifN h;refine bv rfl (qag rfl rfl (qth h7)) (bv rfl (qag rfl rfl qbB) ?_);refine bf hK (P1 [(48,.bool (decide ((IntKind.wrap .i64 (Int.tdiv (IntKind.wrap .i64 (65536+((x5).length:Int))) (IntKind.wrap .i64 (((x3).length:Int)+((x5).length:Int)))))<((p2).length:Int))))] []) ?_;refine zae rfl (fun hc=>?_) (fun hc=>?_)
 ·obtain ⟨hc,h⟩:=cT hc h
  refine zaa rfl fun K hK=>mv rfl rfl (mv rfl rfl ?_);refine bf hK ⟨[(6,.str nS),(7,hI 4)],[]⟩ ?_;obtain rfl:=oi h;exact AW.ret (qae (.inr rfl) (resT rfl (resT rfl rfl)) rfl ⟨trivial,trivial,trivial⟩)
 obtain ⟨hc,h⟩:=cF hc h;refine zac ?_;refine zaa rfl fun K hK=>bv rfl (qac qfl rfl) (bv rfl (qad ty3 rfl (qaj rfl rfl)) ?_);obtain ⟨h9,h⟩:=ifN h;refine b_op rfl (qjg (fid:=9) eInt (0:Int) 9051 rfl rfl ty36 rfl rfl ty3 rfl rfl h9 (fun v8=>?_));refine b_op rfl (qaC (fid:=9) (zs:=[.v (.slice none 0 0)]) 9011 rfl rfl ty36 rfl (fun v10=>?_));refine b_op rfl (qax (cs:=[.ar 9051 v8 eInt.k 0 ((List.replicate (p1.2.1).toNat (0:Int)).length)]) (zs:=[.ar 9051 v8 eInt.k 0 ((List.replicate (p1.2.1).toNat (0:Int)).length)]) rfl rfl rfl ty36 rfl rfl rfl rfl rfl ?_);let O1:Nat × Nat × AObj:=(9051,v8,.arr eInt.k 3 (eInt.E (List.replicate (p1.2.1).toNat (0:Int))));let O2:Nat × Nat × AObj:=(9011,v10,.arr 1 36 [.ar 9051 v8 eInt.k 0 ((List.replicate (p1.2.1).toNat (0:Int)).length)]);refine bf hK (P1 [(11,.ptr 9011 v10 0)] [O1,O2]) ?_;refine zad ?_;refine zaa rfl fun K hK=>bv rfl (qaf ty36 rfl rfl (qaj rfl rfl)) (bv rfl (qeS rfl rfl ty36 rfl rfl) (mv rfl rfl ?_));let E3:Nat × HV:=(53,hI (((List.replicate (p1.2.1).toNat (0:Int)).length:Nat):Int));refine bf hK (P1 [(11,.ptr 9011 v10 0),E3,(54,hI 0)] [O1,O2]) ?_;refine AW.lpX h (by first | exact qa8 | exact qc3) (S:=Int × (List Int)) (V:=Unit) (fun a v=>(P1 [(11,.ptr 9011 v10 0),E3,(54,hI a.1)] [(9011,v10,.arr 1 36 [.ar 9051 v8 eInt.k 0 ((a.2).length)]),(9051,v8,.arr eInt.k 3 (eInt.E a.2))])) ?_ (X:=(List Int)) (W:=Unit) (fun a v=>(P1 [(11,.ptr 9011 v10 0)] [(9011,v10,.arr 1 36 [.ar 9051 v8 eInt.k 0 ((a).length)]),(9051,v8,.arr eInt.k 3 (eInt.E a))])) (fun a17 w18 h=>?_) (fun a11 w12 st13 h=>?_)
 ·exact to_L ⟨(),rfl⟩
 ·refine zaa rfl fun K hK=>b_op rfl (qaC (fid:=9) (zs:=[.v (.pointer none),.v (.slice none 0 0)]) 9013 rfl rfl ty69 rfl (fun v19=>?_))
  refine b_to (qhM 9513 9013 v19 2 1 1 5 69 rfl rfl (by decide) fun v20=>?_);let O4:Nat × Nat × AObj:=(9011,v10,.arr 1 36 [.ar 9051 v8 eInt.k 0 ((a17).length)]);let O5:Nat × Nat × AObj:=(9051,v8,.arr eInt.k 3 (eInt.E a17));let O6:Nat × Nat × AObj:=(9013,v19,bldO 9013 v19 9513 v20 false nS);refine bf hK (P1 [(11,.ptr 9011 v10 0),(13,.ptr 9013 v19 0)] [O4,O5,O6,(9513,v20,bytO nS)]) ?_;refine zaa rfl fun K hK=>b_op rfl (qaC (fid:=9) (zs:=[hI 0]) 9014 rfl rfl ty3 rfl (fun v21=>?_));refine b_op rfl (qax (cs:=[hI 0]) (zs:=[hI 0]) rfl rfl rfl ty3 rfl rfl rfl rfl rfl ?_);refine bf hK (P1 [(11,.ptr 9011 v10 0),(13,.ptr 9013 v19 0),(14,.ptr 9014 v21 0)] [O4,O5,O6,(9513,v20,bytO nS),(9014,v21,.arr 1 3 [hI 0])]) ?_;refine zaa rfl fun K hK=>bv rfl (qeT rfl rfl) (mv rfl rfl ?_);let E7:Nat × HV:=(15,.fn (.func 26) [] [.ptr 9013 v19 0,.ptr 9014 v21 0,gF p1,.ptr 9011 v10 0]);refine bf hK (P1 [(11,.ptr 9011 v10 0),(13,.ptr 9013 v19 0),(14,.ptr 9014 v21 0),E7] [O4,O5,O6,(9513,v20,bytO nS),(9014,v21,.arr 1 3 [hI 0])]) ?_;refine zao 8 follows rfl rfl fun K hK=>?_;refine sm rfl rfl ?_;refine sv rfl (qac qdb rfl) ?_;refine sv rfl (qad ty22 rfl (qaj rfl rfl)) ?_;refine sm rfl rfl ?_;obtain ⟨x22,h23,h⟩:=bS h;refine sv rfl (qaI ty36 es36 rfl rfl (qay h23)) ?_;refine sv rfl (qad ty3 rfl (qaW eInt h23 (o:=0) rfl rfl)) ?_;obtain ⟨x24,h25,h⟩:=bS h;refine sv rfl (qaI ty22 es22 rfl rfl (qay h25)) ?_;refine sv rfl (qad ty9 rfl (qaW eStr h25 (o:=0) rfl rfl)) ?_;refine qb7 ?_;refine b_op rfl (qkA h (S:=(List Int) × Int) (V:=Nat) (fun a v=>(P1 [(11,.ptr 9011 v10 0),(13,.ptr 9013 v19 0),(14,.ptr 9014 v21 0),E7,(71,.tup [])] [(9011,v10,.arr 1 36 [slE eInt a.1]),(9013,v19,bldO 9013 v19 9513 v true (nS++x24)),(9513,v,bytO (nS++x24)),(9014,v21,.arr 1 3 [hI a.2])])) rfl rfl rfl rfl (fun a26 w27 h=>?_) (fun k28 h=>?_) )
  ·refine bf hK (P1 [(11,.ptr 9011 v10 0),(13,.ptr 9013 v19 0),(14,.ptr 9014 v21 0),E7] [(9011,v10,.arr 1 36 [slE eInt a26.1]),(9013,v19,bldO 9013 v19 9513 w27 true (nS++x24)),(9513,w27,bytO (nS++x24)),(9014,v21,.arr 1 3 [hI a26.2])]) ?_
   refine zad ?_;refine zaa rfl fun K hK=>mv rfl rfl ?_;obtain ⟨h29,h⟩:=ifN h;refine bv rfl (qep eInt ty36 es36 rfl rfl rfl h29) (bv rfl (qav rfl rfl ty36 rfl) (mv rfl rfl ?_));let E8:Nat × HV:=(73,slE eInt ((p2.take (((p2).length:Int)).toNat).drop (1:Int).toNat));let E9:Nat × HV:=(74,hI (((p2.take (((p2).length:Int)).toNat).drop (1:Int).toNat).length:Int));let P2:ASf:=fun t H=>⟨(3,jF p0)::(4,gF p1)::(11,.ptr 9011 v10 0)::(13,.ptr 9013 v19 0)::(14,.ptr 9014 v21 0)::E7::t,H⟩;refine bf hK (P2 [E8,E9,(75,hI 0)] [(9011,v10,.arr 1 36 [slE eInt a26.1]),(9013,v19,bldO 9013 v19 9513 w27 true (nS++x24)),(9513,w27,bytO (nS++x24)),(9014,v21,.arr 1 3 [hI a26.2])]) ?_;refine AW.lpR h (by first | exact qa8 | exact qc3) (S:=Int × (List Int) × (List UInt8) × Int) (V:=Nat) (fun a v=>(P2 [E8,E9,(75,hI a.1)] [(9011,v10,.arr 1 36 [slE eInt a.2.1]),(9013,v19,bldO 9013 v19 9513 v true a.2.2.1),(9513,v,bytO a.2.2.1),(9014,v21,.arr 1 3 [hI a.2.2.2])])) ?_ (X:=(List UInt8)) (W:=Nat) (fun a v=>⟨[(13,.ptr 9013 v19 0)],[(9013,v19,bldO 9013 v19 9513 v true a),(9513,v,bytO a)]⟩) (fun a81 w82 h=>?_) (fun a30 w31 st32 h hr33=> ?_)
   ·exact to_L ⟨w27,rfl⟩
   ·refine zaa rfl fun K hK=>b_op rfl (qdd rfl rfl rfl rfl (qnk (id:=9013) (ver:=v19) (aid:=9513) (aver:=w82) (u:=true) (l:=a81) rfl rfl fun v83=>?_) )
    refine mv rfl rfl (mv rfl rfl ?_);refine bf hK ⟨[(6,.str a81),(7,hI 0)],[]⟩ ?_;obtain rfl:=oi h;exact AW.ret (qae (.inr rfl) (resT rfl (resT rfl rfl)) rfl ⟨trivial,trivial,trivial⟩)
   refine zaa rfl fun K hK=>bv rfl (qag rfl rfl qaF) ?_;let O10:Nat × Nat × AObj:=(9011,v10,.arr 1 36 [slE eInt a30.2.1]);let O11:Nat × Nat × AObj:=(9013,v19,bldO 9013 v19 9513 w31 true a30.2.2.1);let O12:Nat × Nat × AObj:=(9513,w31,bytO a30.2.2.1);let O13:Nat × Nat × AObj:=(9014,v21,.arr 1 3 [hI a30.2.2.2]);refine bf hK (P2 [E8,E9,(75,hI a30.1),(76,.bool (decide (a30.1<(((p2.take (((p2).length:Int)).toNat).drop (1:Int).toNat).length:Int))))] [O10,O11,O12,O13]) ?_;refine zak rfl (fun hc=>?_) (fun hc=>?_)
   ·obtain ⟨hc,h⟩:=cT hc h
    refine zac ?_;refine zad (zaf ?_);refine zaa rfl fun K hK=>?_;obtain ⟨x34,h35,h⟩:=bS h;refine bv rfl (qaI ty36 es36 rfl rfl (qay h35)) (bv rfl (qad ty3 rfl (qaW eInt h35 (o:=0) rfl rfl)) ?_);refine b_op rfl (qaC (fid:=9) (zs:=[hI 0]) 9017 rfl rfl ty3 rfl (fun v36=>?_));refine b_op rfl (qax (cs:=[hI x34]) (zs:=[hI x34]) rfl rfl rfl ty3 rfl rfl rfl rfl rfl ?_);let O14:Nat × Nat × AObj:=(9017,v36,.arr 1 3 [hI x34]);refine bf hK (P2 [(17,.ptr 9017 v36 0),E8,E9,(75,hI a30.1)] [O10,O11,O12,O13,O14]) ?_;refine zaa rfl fun K hK=>bv rfl (qac qe0 rfl) (bv rfl (qad ty22 rfl (qaj rfl rfl)) (bv rfl (qeT rfl rfl) ?_));refine b_op rfl (qkA h (S:=(List UInt8) × Bool) (V:=Unit) (fun a v=>(P2 [(17,.ptr 9017 v36 0),E8,E9,(75,hI a30.1),(83,.tup [.str a.1,.bool a.2])] [O10,O11,O12,O13,O14])) rfl rfl rfl rfl (fun a37 w38 h=>?_) (fun k39 h=>?_) )
    ·refine mv rfl rfl (bv rfl (qak rfl rfl) (bv rfl (qak rfl rfl) (mv rfl rfl (mv rfl rfl ?_))))
     refine bf hK (P2 [(17,.ptr 9017 v36 0),(18,.str a37.1),(19,.bool a37.2),E8,E9,(75,hI a30.1)] [O10,O11,O12,O13,O14]) ?_;refine zad ?_;refine zaa rfl fun K hK=>mv rfl rfl (bv rfl (qdX rfl) ?_);refine bf hK (P2 [(17,.ptr 9017 v36 0),(18,.str a37.1),E8,E9,(75,hI a30.1),(87,.bool (!a37.2))] [O10,O11,O12,O13,O14]) ?_;refine zae rfl (fun hc=>?_) (fun hc=>?_)
     ·have h:=ifT hc h
      refine zaa rfl fun K hK=>mv rfl rfl (mv rfl rfl ?_);refine bf hK ⟨[(6,.str nS),(7,hI 13)],[]⟩ ?_;have h:=hr33 _ h;obtain rfl:=oi h;exact AW.ret (qae (.inr rfl) (resT rfl (resT rfl rfl)) rfl ⟨trivial,trivial,trivial⟩)
     have h:=ifF (bF' hc) h;refine zac ?_;refine zab rfl fun K hK=>mv rfl rfl (mv rfl rfl (bv rfl (qac qdb rfl) (bv rfl (qad ty22 rfl (qaj rfl rfl)) (bv rfl (qaf ty3 rfl rfl (qaj rfl rfl)) ?_))));obtain ⟨x40,h41,h⟩:=bS h;refine bv rfl (qaI ty22 es22 rfl rfl (qay h41)) (bv rfl (qad ty9 rfl (qaW eStr h41 (o:=0) rfl rfl)) ?_);obtain ⟨h42,h⟩:=ifN h;refine bv rfl (qag rfl rfl (qkd h42)) ?_;refine b_op rfl (qkA h (S:=(List Int) × Int) (V:=Nat) (fun a v=>(P2 [E8,E9,(75,hI a30.1),(96,.tup [])] [(9011,v10,.arr 1 36 [slE eInt a.1]),(9013,v19,bldO 9013 v19 9513 v true (a30.2.2.1++(a37.1++x40))),(9513,v,bytO (a30.2.2.1++(a37.1++x40))),(9014,v21,.arr 1 3 [hI a.2])])) rfl rfl rfl rfl (fun a43 w44 h=>?_) (fun k45 h=>?_) )
     ·refine bf hK (P2 [E8,E9,(75,hI a30.1)] [(9011,v10,.arr 1 36 [slE eInt a43.1]),(9013,v19,bldO 9013 v19 9513 w44 true (a30.2.2.1++(a37.1++x40))),(9513,w44,bytO (a30.2.2.1++(a37.1++x40))),(9014,v21,.arr 1 3 [hI a43.2])]) ?_
      refine zab rfl fun K hK=>bv rfl (qag rfl rfl qaX) (mv rfl rfl ?_);refine qab (hK _ ?_);exact to_L ⟨(IntKind.wrap .i64 (a30.1+1),a43.1,a30.2.2.1++(a37.1++x40),a43.2),w44,h,rfl⟩
     refine ACall.of_body Tryz.func26 rfl rfl (lb rfl) ?_;unfold Tryz.f26;dsimp only [qaL,Nat.reduceAdd];refine AW.fin ?_;refine zaa rfl fun K hK=>mv rfl rfl ?_;obtain ⟨h47,h⟩:=ifN h;refine b_op rfl (qdd rfl rfl rfl rfl (qew (id:=9013) (ver:=v19) (aid:=9513) (aver:=w31) (u:=true) (l:=a30.2.2.1) (m:=(a37.1++x40)) (by decide) rfl rfl h47 fun v46=>?_) );let O15:Nat × Nat × AObj:=(9013,v19,bldO 9013 v19 9513 v46 true (a30.2.2.1++(a37.1++x40)));let P3:ASf:=fun t H=>⟨(0,.str (a37.1++x40))::t,O10::O15::(9513,v46,bytO (a30.2.2.1++(a37.1++x40)))::H⟩;refine bf hK (P3 [(2,.ptr 9014 v21 0),(3,gF p1),(4,.ptr 9011 v10 0)] [O13,O14]) ?_;refine zao 4 follows rfl rfl fun K hK=>?_;refine sv rfl (qaf ty3 rfl rfl (qaj rfl rfl)) ?_;refine sm rfl rfl ?_;obtain ⟨x48,h49,h⟩:=bS h;refine s_op rfl rfl (qaV rfl rfl rfl rfl (zai (qei h49)) ?_);refine sv rfl (qag rfl rfl qaX) ?_;refine qb7 ?_;refine b_op rfl (qax (cs:=[hI (IntKind.wrap .i64 (a30.2.2.2+x48))]) (zs:=[hI (IntKind.wrap .i64 (a30.2.2.2+x48))]) rfl rfl rfl ty3 rfl rfl rfl rfl rfl ?_);refine bf hK (P3 [(3,gF p1),(4,.ptr 9011 v10 0)] [(9014,v21,.arr 1 3 [hI (IntKind.wrap .i64 (a30.2.2.2+x48))]),O14]) ?_;refine zab rfl fun K hK=>bv rfl (qad ty27 rfl (qao rfl (lb rfl) rfl)) (bv rfl (qaf ty36 rfl rfl (qaj rfl rfl)) (mv rfl rfl ?_));obtain ⟨x50,h51,h⟩:=bS h;refine b_op rfl (qat rfl rfl rfl rfl (zai (qe4 h51)) ?_);refine b_op rfl (qax (cs:=[slE eInt x50]) (zs:=[slE eInt x50]) rfl rfl rfl ty36 rfl rfl rfl rfl rfl ?_);refine qab (hK _ ?_);refine ql1 ?_;refine qmK (hs:=[]) (q:=HV.tup []) (.inl rfl) rfl rfl ?_;exact to_L ⟨(x50,IntKind.wrap .i64 (a30.2.2.2+x48)),v46,h,rfl⟩
    refine ACall.of_body Tryz.func30 rfl rfl (lb rfl) ?_;unfold Tryz.f30;dsimp only [qaL,Nat.reduceAdd];refine AW.fin ?_;refine zaa rfl fun K hK=>mv rfl rfl (mv rfl rfl ?_);let E16:Nat × HV:=(1,.fn (.func 31) [] [.ptr 9014 v21 0,jF p0,.ptr 9017 v36 0,gF p1,.ptr 9011 v10 0]);let P4:ASf:=fun t H=>⟨t,O10::O11::O12::O13::O14::H⟩;refine bf hK (P4 [(0,slE eStr p0.2),E16] []) ?_;refine zaa rfl fun K hK=>mv rfl rfl ?_;refine bf hK (P4 [(0,slE eStr p0.2),E16,(6,.str nS)] []) ?_;refine zaa rfl fun K hK=>mv rfl rfl (mv rfl rfl ?_);refine bf hK (P4 [(0,slE eStr p0.2),E16,(6,.str nS),(7,hI 0),(8,.bool false)] []) ?_;refine zad ?_;refine zaa rfl fun K hK=>mv rfl rfl (bv rfl (qav rfl rfl ty22 rfl) (mv rfl rfl ?_));let E17:Nat × HV:=(14,hI ((p0.2).length:Int));refine bf hK (P4 [E16,(6,.str nS),(7,hI 0),(8,.bool false),(13,slE eStr p0.2),E17,(15,hI 0)] []) ?_;refine AW.lpX h (by first | exact qa8 | exact qc3) (S:=(List UInt8) × Int × Bool × Int) (V:=Unit) (fun a v=>(P4 [E16,(6,.str a.1),(7,hI a.2.1),(8,.bool a.2.2.1),(13,slE eStr p0.2),E17,(15,hI a.2.2.2)] [])) ?_ (X:=(List UInt8) × Bool) (W:=Unit) (fun a v=>(P4 [(6,.str a.1),(8,.bool a.2)] [])) (fun a79 w80 h=>?_) (fun a52 w53 st54 h=>?_)
    ·exact to_L ⟨(),rfl⟩
    ·refine zaa rfl fun K hK=>mv rfl rfl (mv rfl rfl (mv rfl rfl (mv rfl rfl ?_)))
     refine bf hK (P4 [(4,.str a79.1),(5,.bool a79.2)] []) ?_;refine AW.ret ?_;refine qmK (hs:=[.str a79.1,.bool a79.2]) (q:=HV.tup [.str a79.1,.bool a79.2]) (.inr rfl) (resT rfl (resT rfl rfl)) rfl ?_;exact to_L ⟨(a79.1,a79.2),(),h,rfl⟩
    refine zaa rfl fun K hK=>bv rfl (qag rfl rfl qaF) ?_;refine bf hK (P4 [E16,(6,.str a52.1),(7,hI a52.2.1),(8,.bool a52.2.2.1),(13,slE eStr p0.2),E17,(15,hI a52.2.2.2),(16,.bool (decide (a52.2.2.2<((p0.2).length:Int))))] []) ?_;refine zak rfl (fun hc=>?_) (fun hc=>?_)
    ·obtain ⟨hc,h⟩:=cT hc h
     refine zac ?_;refine zag h (S:=(List UInt8) × Int × Bool) (V:=Unit) (fun a v=>(P4 [E16,(6,.str a.1),(7,hI a.2.1),(8,.bool a.2.2),(13,slE eStr p0.2),E17,(15,hI a52.2.2.2)] [])) (fun a56 w57 h=>?_) (fun k58 h=>?_)
     ·refine zab rfl fun K hK=>bv rfl (qag rfl rfl qaX) (mv rfl rfl ?_)
      refine qab (hK _ ?_);exact to_L ⟨(a56.1,a56.2.1,a56.2.2,IntKind.wrap .i64 (a52.2.2.2+1)),(),h,rfl⟩
     refine zaf ?_;refine zaa rfl fun K hK=>?_;obtain ⟨x59,h60,h⟩:=bS h;refine bv rfl (qaI ty22 es22 rfl rfl (qay h60)) (bv rfl (qad ty9 rfl (qaW eStr h60 (o:=0) rfl rfl)) (mv rfl rfl ?_));refine bf hK (P4 [E16,(6,.str a52.1),(7,hI a52.2.1),(8,.bool a52.2.2.1),(10,.str x59),(13,slE eStr p0.2),E17,(15,hI a52.2.2.2)] []) ?_;refine zaa rfl fun K hK=>mv rfl rfl (mv rfl rfl ?_);refine b_op rfl (qkA h (S:=Int × Bool) (V:=Unit) (fun a v=>(P4 [E16,(6,.str a52.1),(7,hI a52.2.1),(8,.bool a52.2.2.1),(10,.str x59),(13,slE eStr p0.2),E17,(15,hI a52.2.2.2),(22,.tup [hI a.1,.bool a.2])] [])) rfl rfl rfl rfl (fun a61 w62 h=>?_) (fun k63 h=>?_) )
     ·refine mv rfl rfl (bv rfl (qak rfl rfl) (bv rfl (qak rfl rfl) (mv rfl rfl (mv rfl rfl ?_))))
      refine bf hK (P4 [E16,(6,.str a52.1),(7,hI a52.2.1),(8,.bool a52.2.2.1),(10,.str x59),(11,hI a61.1),(12,.bool a61.2),(13,slE eStr p0.2),E17,(15,hI a52.2.2.2)] []) ?_;refine zag h (S:=Bool) (V:=Unit) (fun a v=>(P4 [E16,(6,.str a52.1),(7,hI a52.2.1),(8,.bool a52.2.2.1),(10,.str x59),(11,hI a61.1),(13,slE eStr p0.2),E17,(15,hI a52.2.2.2),(34,.bool a)] [])) (fun a64 w65 h=>?_) (fun k66 h=>?_)
      ·refine zae rfl (fun hc=>?_) (fun hc=>?_)
       ·have h:=ifT hc h
        refine zab rfl fun K hK=>mv rfl rfl (mv rfl rfl (mv rfl rfl (mv rfl rfl (mv rfl rfl ?_))));refine qab (hK _ ?_);exact to_L ⟨(x59,a61.1,true),(),h,rfl⟩
       have h:=ifF (bF' hc) h;refine zac ?_;exact to_L ⟨(a52.1,a52.2.1,a52.2.2.1),(),h,rfl⟩
      refine zab rfl fun K hK=>mv rfl rfl (mv rfl rfl ?_);by_cases hg68:a61.2=true
      ·have h:=ifT hg68 h
       refine b_T rfl rfl rfl rfl hg68 (qai rfl (qaE rfl rfl).2 ?_);refine b_T rfl rfl rfl rfl rfl (qai rfl (qdX rfl) ?_);refine b_T rfl rfl rfl rfl rfl (qai rfl (qaE rfl rfl).2 ?_);by_cases hg67:(!a52.2.2.1)=true
       ·have h:=ifT hg67 h
        refine b_F rfl rfl rfl rfl rfl hg67 ?_
        iterate 2 refine b_F rfl rfl rfl rfl rfl rfl ?_
        refine b_T rfl rfl rfl rfl rfl (qai rfl (qan rfl rfl rfl) ?_);refine bv rfl (qan rfl rfl rfl) ?_;refine qab (hK _ ?_);exact to_L ⟨true,(),h,rfl⟩
       have h:=ifF hg67 h;refine b_T rfl rfl rfl rfl (bF hg67) (qai rfl (qaE rfl rfl).2 ?_);refine b_T rfl rfl rfl rfl rfl (qai rfl (qaE rfl rfl).2 ?_);refine b_T rfl rfl rfl rfl rfl (qai rfl (qag rfl rfl qaF) ?_);refine b_T rfl rfl rfl rfl rfl (qai rfl (qau rfl rfl rfl) ?_);refine bv rfl (qan rfl rfl rfl) ?_;refine qab (hK _ ?_);exact to_L ⟨decide (a61.1<a52.2.1),(),h,rfl⟩
      have h:=ifF hg68 h;refine b_F rfl rfl rfl rfl rfl (bF hg68) ?_
      iterate 2 refine b_F rfl rfl rfl rfl rfl rfl ?_
      refine b_U rfl rfl rfl rfl rfl ?_;refine b_U rfl rfl rfl rfl rfl ?_;refine b_U rfl rfl rfl rfl rfl ?_;refine b_F rfl rfl rfl rfl rfl rfl ?_;refine bv rfl (qau rfl rfl rfl) ?_;refine qab (hK _ ?_);exact to_L ⟨false,(),h,rfl⟩
     refine ACall.of_body Tryz.func31 rfl rfl (lb rfl) ?_;unfold Tryz.f31;dsimp only [qaL,Nat.reduceAdd];refine AW.fin ?_;refine zaa rfl fun K hK=>mv rfl rfl (mv rfl rfl ?_);refine bf hK (P4 [(0,.str x59),(1,.ptr 9014 v21 0),(2,jF p0),(3,.ptr 9017 v36 0),(4,gF p1),(5,.ptr 9011 v10 0)] []) ?_;refine zao 11 follows rfl rfl fun K hK=>?_;refine sv rfl (qaf ty3 rfl rfl (qaj rfl rfl)) ?_;refine sm rfl rfl ?_;refine sv rfl (qac qdb rfl) ?_;refine sv rfl (qad ty22 rfl (qaj rfl rfl)) ?_;refine sv rfl (qaf ty3 rfl rfl (qaj rfl rfl)) ?_;obtain ⟨x69,h70,h⟩:=bS h;refine sv rfl (qaI ty22 es22 rfl rfl (qay h70)) ?_;refine sv rfl (qad ty9 rfl (qaW eStr h70 (o:=0) rfl rfl)) ?_;obtain ⟨h71,h⟩:=ifN h;refine sv rfl (qag rfl rfl (qkd h71)) ?_;obtain ⟨x72,h73,h⟩:=bS h;refine s_op rfl rfl (qaV rfl rfl rfl rfl (zai (qei h73)) ?_);refine sv rfl (qag rfl rfl qaX) ?_;refine sm rfl rfl ?_;refine qb7 ?_;refine bf hK (P4 [(0,.str x59),(2,jF p0),(3,.ptr 9017 v36 0),(4,gF p1),(5,.ptr 9011 v10 0),(9,hI (IntKind.wrap .i64 (a30.2.2.2+x72)))] []) ?_;refine zao 18 follows rfl rfl fun K hK=>?_
     iterate 2 refine sm rfl rfl ?_
     refine sv rfl (qrg rfl) ?_;refine sv rfl (qk2 rfl rfl rfl) ?_;refine sv rfl (qad ty27 rfl (qao rfl (lb rfl) rfl)) ?_;refine sv rfl (qaf ty36 rfl rfl (qaj rfl rfl)) ?_;refine sm rfl rfl ?_;refine sv rfl (qac qdb rfl) ?_;refine sv rfl (qad ty22 rfl (qaj rfl rfl)) ?_;refine sv rfl (qaf ty3 rfl rfl (qaj rfl rfl)) ?_;obtain ⟨x74,h75,h⟩:=bS h;refine sv rfl (qaI ty22 es22 rfl rfl (qay h75)) ?_;refine sv rfl (qad ty9 rfl (qaW eStr h75 (o:=0) rfl rfl)) ?_;obtain ⟨h76,h⟩:=ifN h;refine sv rfl (qag rfl rfl (qkd h76)) ?_;obtain ⟨x77,h78,h⟩:=bS h;refine s_op rfl rfl (qaV rfl rfl rfl rfl (zai (qe4 h78)) ?_);refine sv rfl (qav rfl rfl ty36 rfl) ?_;refine sv rfl (qag rfl rfl qbB) ?_
     iterate 2 refine sm rfl rfl ?_
     refine qb7 ?_;refine bf hK (P4 [(7,hI (max (IntKind.wrap .i64 (a30.2.2.2+x72)) (IntKind.wrap .i64 (0 - (IntKind.wrap .i64 (a30.2.2.2+x72)))))),(8,.bool (decide (0<((x77).length:Int))))] []) ?_;refine AW.ret ?_;refine qmK (hs:=[hI (max (IntKind.wrap .i64 (a30.2.2.2+x72)) (IntKind.wrap .i64 (0 - (IntKind.wrap .i64 (a30.2.2.2+x72))))),.bool (decide (0<((x77).length:Int)))]) (q:=HV.tup [hI (max (IntKind.wrap .i64 (a30.2.2.2+x72)) (IntKind.wrap .i64 (0 - (IntKind.wrap .i64 (a30.2.2.2+x72))))),.bool (decide (0<((x77).length:Int)))]) (.inr rfl) (resT rfl (resT rfl rfl)) rfl ?_;exact to_L ⟨(max (IntKind.wrap .i64 (a30.2.2.2+x72)) (IntKind.wrap .i64 (0 - (IntKind.wrap .i64 (a30.2.2.2+x72)))),decide (0<((x77).length:Int))),(),h,rfl⟩
    obtain ⟨hc,h⟩:=cF hc h;refine AW.exit ?_;exact to_L ⟨(a52.1,a52.2.2.1),(),h,rfl⟩
   obtain ⟨hc,h⟩:=cF hc h;refine AW.exit ?_;exact to_L ⟨a30.2.2.1,w31,h,rfl⟩
  refine ACall.of_body Tryz.func26 rfl rfl (lb rfl) ?_;unfold Tryz.f26;dsimp only [qaL,Nat.reduceAdd];refine AW.fin ?_;refine zaa rfl fun K hK=>mv rfl rfl ?_;obtain ⟨h85,h⟩:=ifN h;refine b_op rfl (qdd rfl rfl rfl rfl (qew (id:=9013) (ver:=v19) (aid:=9513) (aver:=v20) (u:=false) (l:=nS) (m:=x24) (by decide) rfl rfl h85 fun v84=>?_) );let O18:Nat × Nat × AObj:=(9013,v19,bldO 9013 v19 9513 v84 true (nS++x24));refine bf hK ⟨[(0,.str x24),(2,.ptr 9014 v21 0),(3,gF p1),(4,.ptr 9011 v10 0)],[O4,O5,O18,(9513,v84,bytO (nS++x24)),(9014,v21,.arr 1 3 [hI 0])]⟩ ?_;refine zao 4 follows rfl rfl fun K hK=>?_;refine sv rfl (qaf ty3 rfl rfl (qaj rfl rfl)) ?_;refine sm rfl rfl ?_;obtain ⟨x86,h87,h⟩:=bS h;refine s_op rfl rfl (qaV rfl rfl rfl rfl (zai (qei h87)) ?_);refine sv rfl (qag rfl rfl qaX) ?_;refine qb7 ?_;refine b_op rfl (qax (cs:=[hI (IntKind.wrap .i64 (0+x86))]) (zs:=[hI (IntKind.wrap .i64 (0+x86))]) rfl rfl rfl ty3 rfl rfl rfl rfl rfl ?_);refine bf hK ⟨[(0,.str x24),(3,gF p1),(4,.ptr 9011 v10 0)],[O4,O5,O18,(9513,v84,bytO (nS++x24)),(9014,v21,.arr 1 3 [hI (IntKind.wrap .i64 (0+x86))])]⟩ ?_;refine AW.to (qoi 2 [(9051,v8,.arr eInt.k 3 (eInt.E a17))] ⟨[(0,.str x24),(3,gF p1),(4,.ptr 9011 v10 0)],[(9011,v10,.arr 1 36 [slE eInt a17]),O18,(9513,v84,bytO (nS++x24)),(9014,v21,.arr 1 3 [hI (IntKind.wrap .i64 (0+x86))])]⟩ ⟨⟨_,rfl,rfl⟩,⟨_,rfl,rfl⟩,⟨_,rfl,rfl⟩,trivial⟩ ⟨.inr ⟨_,_,_,rfl,congrArg (AObj.arr 1 36) (congrArg (fun z:HV=>[z]) (qci eInt (D:=[(9051,v8,.arr eInt.k 3 (eInt.E a17))]) (l:=a17) rfl fun _ _=>rfl).symm)⟩,.inl rfl,.inl rfl,.inl rfl,trivial⟩ ⟨rfl,trivial⟩ ⟨rfl,trivial⟩ ?_);refine zab rfl fun K hK=>bv rfl (qad ty27 rfl (qao rfl (lb rfl) rfl)) (bv rfl (qaf ty36 rfl rfl (qaj rfl rfl)) (mv rfl rfl ?_));obtain ⟨x88,h89,h⟩:=bS h;refine b_op rfl (qat rfl rfl rfl rfl (zai (qe4 h89)) ?_);refine b_op rfl (qax (cs:=[slE eInt x88]) (zs:=[slE eInt x88]) rfl rfl rfl ty36 rfl rfl rfl rfl rfl ?_);refine qab (hK _ ?_);refine ql1 ?_;refine qmK (hs:=[]) (q:=HV.tup []) (.inl rfl) rfl rfl ?_;exact to_L ⟨(x88,IntKind.wrap .i64 (0+x86)),v84,h,rfl⟩
 refine zaa rfl fun K hK=>bv rfl (qag rfl rfl qaF) ?_;let O19:Nat × Nat × AObj:=(9011,v10,.arr 1 36 [.ar 9051 v8 eInt.k 0 ((a11.2).length)]);refine bf hK (P1 [(11,.ptr 9011 v10 0),E3,(54,hI a11.1),(55,.bool (decide (a11.1<(((List.replicate (p1.2.1).toNat (0:Int)).length:Nat):Int))))] [O19,(9051,v8,.arr eInt.k 3 (eInt.E a11.2))]) ?_;refine zak rfl (fun hc=>?_) (fun hc=>?_)
 ·obtain ⟨hc,h⟩:=cT hc h
  refine zac ?_;refine zad (zaf ?_);refine zaa rfl fun K hK=>mv rfl rfl (mv rfl rfl ?_);refine bf hK (P1 [(11,.ptr 9011 v10 0),(12,hI a11.1),E3,(54,hI a11.1)] [O19,(9051,v8,.arr eInt.k 3 (eInt.E a11.2))]) ?_;refine zab rfl fun K hK=>bv rfl (qaf ty36 rfl rfl (qaj rfl rfl)) (mv rfl rfl (mv rfl rfl ?_));obtain ⟨x15,h16,h⟩:=bS h;refine bv rfl (qgO ty36 es36 rfl rfl (qay h16) rfl) ?_;refine b_op rfl (qiL eInt (l:=a11.2) (j:=a11.1) (v:=a11.1) rfl rfl rfl ty3 rfl rfl rfl (qay h16) ?_);refine qmw hK (s':=(P1 [(11,.ptr 9011 v10 0),E3,(54,hI a11.1)] [(9011,v10,.arr 1 36 [.ar 9051 v8 eInt.k 0 (((a11.2).set (a11.1).toNat a11.1).length)]),(9051,v8,.arr eInt.k 3 (eInt.E ((a11.2).set (a11.1).toNat a11.1)))])) (zam ⟨rfl,rfl,rfl,rfl,rfl,rfl,trivial⟩ ⟨hle rfl (by first | rfl | simp only [List.length_set,qcS,qcq,List.length_reverse]),rfl,trivial⟩) ?_;refine zab rfl fun K hK=>bv rfl (qag rfl rfl qaX) (mv rfl rfl ?_);refine qab (hK _ ?_);exact to_L ⟨(IntKind.wrap .i64 (a11.1+1),(a11.2).set (a11.1).toNat a11.1),(),h,rfl⟩
 obtain ⟨hc,h⟩:=cF hc h;refine AW.exit ?_;exact to_L ⟨a11.2,(),h,rfl⟩
theorem qip {p0:qaw} {p1:List UInt8} {r:(List (Int)) × Int} (h:qcI p0 p1=some r):Pure Tryz.prog 10 [jA p0,.str p1] (· = HV.tup [slE eInt r.1,hI r.2]):=by
 unfold qcI at h;refine zaj Tryz.func10 rfl rfl (lb rfl) fun hf=>?_;unfold Tryz.f10;dsimp only [qaL,Nat.reduceAdd];refine zaa rfl fun K hK=>b_op rfl (qbh rfl rfl rfl ?_);refine mv rfl rfl (mv rfl rfl ?_);let P1:ASf:=fun t H=>⟨(1,.str p1)::(2,jF p0)::t,H⟩;refine bf hK (P1 [] []) ?_;refine zad ?_;refine zaa rfl fun K hK=>bv rfl (qad ty24 rfl (qao rfl (lb rfl) rfl)) ?_;obtain ⟨x1,h2,h⟩:=bS h;refine b_op rfl (qat rfl rfl rfl rfl (zai (qgN h2)) ?_);refine bv rfl (qag rfl rfl qcv) ?_;refine bf hK (P1 [(12,.bool (decide (x1≠0)))] []) ?_;refine zae rfl (fun hc=>?_) (fun hc=>?_)
 ·obtain ⟨hc,h⟩:=cT hc h
  refine zaa rfl fun K hK=>mv rfl rfl (mv rfl rfl ?_);refine bf hK ⟨[(4,.v (.slice none 0 0)),(5,hI 1)],[]⟩ ?_;refine AW.to (qcR ⟨[(4,slE eInt ([]:List Int)),(5,hI 1)],[]⟩ ⟨⟨_,rfl,.nil _⟩,⟨_,rfl,.refl _⟩,trivial⟩ trivial ?_);obtain rfl:=oi h;exact AW.ret (qae (.inr rfl) (resT rfl (resT rfl rfl)) rfl ⟨(qar fun _ _=>⟨trivial,trivial⟩),trivial,trivial⟩)
 obtain ⟨hc,h⟩:=cF hc h;refine zac ?_;refine zad ?_;refine zaa rfl fun K hK=>mv rfl rfl (bv rfl (qag rfl rfl qlP) ?_);refine bf hK (P1 [(14,.bool (decide (p1=nS)))] []) ?_;refine zae rfl (fun hc=>?_) (fun hc=>?_)
 ·obtain ⟨hc,h⟩:=cT hc h
  refine zaa rfl fun K hK=>mv rfl rfl (mv rfl rfl ?_);refine bf hK ⟨[(4,.v (.slice none 0 0)),(5,hI 0)],[]⟩ ?_;refine AW.to (qcR ⟨[(4,slE eInt ([]:List Int)),(5,hI 0)],[]⟩ ⟨⟨_,rfl,.nil _⟩,⟨_,rfl,.refl _⟩,trivial⟩ trivial ?_);obtain rfl:=oi h;exact AW.ret (qae (.inr rfl) (resT rfl (resT rfl rfl)) rfl ⟨(qar fun _ _=>⟨trivial,trivial⟩),trivial,trivial⟩)
 obtain ⟨hc,h⟩:=cF hc h;refine zac ?_;refine zao 12 follows rfl rfl fun K hK=>?_;refine sv rfl (qac qdb rfl) ?_;refine sv rfl (qad ty22 rfl (qaj rfl rfl)) ?_;obtain ⟨x3,h4,h⟩:=bS h;refine sv rfl (qaI ty22 es22 rfl rfl (qay h4)) ?_;refine sv rfl (qad ty9 rfl (qaW eStr h4 (o:=0) rfl rfl)) ?_;refine sv rfl (qcb rfl rfl ty9 rfl) ?_;refine sv rfl (qac qe0 rfl) ?_;refine sv rfl (qad ty22 rfl (qaj rfl rfl)) ?_;obtain ⟨x5,h6,h⟩:=bS h;refine sv rfl (qaI ty22 es22 rfl rfl (qay h6)) ?_;refine sv rfl (qad ty9 rfl (qaW eStr h6 (o:=0) rfl rfl)) ?_;refine sv rfl (qcb rfl rfl ty9 rfl) ?_
 iterate 2 refine sm rfl rfl ?_
 refine qb7 ?_;let E1:Nat × HV:=(6,hI ((x3).length:Int));let E2:Nat × HV:=(7,hI ((x5).length:Int));refine bf hK (P1 [E1,E2] []) ?_;refine zad ?_;refine zaa rfl fun K hK=>mv rfl rfl (bv rfl (qcb rfl rfl ty9 rfl) (mv rfl rfl (bv rfl (qag rfl rfl qaX) (mv rfl rfl (mv rfl rfl ?_)))));refine bv rfl (qag rfl rfl qaX) ?_;obtain ⟨h7,h⟩:=ifN h;refine bv rfl (qag rfl rfl (qpj h7)) (bv rfl (qag rfl rfl qcv) ?_);refine bf hK (P1 [E1,E2,(33,.bool (decide ((Int.tmod (IntKind.wrap .i64 (((p1).length:Int)+((x5).length:Int))) (IntKind.wrap .i64 (((x3).length:Int)+((x5).length:Int))))≠0)))] []) ?_;refine zae rfl (fun hc=>?_) (fun hc=>?_)
 ·obtain ⟨hc,h⟩:=cT hc h
  refine zaa rfl fun K hK=>mv rfl rfl (mv rfl rfl ?_);refine bf hK ⟨[(4,.v (.slice none 0 0)),(5,hI 11)],[]⟩ ?_;refine AW.to (qcR ⟨[(4,slE eInt ([]:List Int)),(5,hI 11)],[]⟩ ⟨⟨_,rfl,.nil _⟩,⟨_,rfl,.refl _⟩,trivial⟩ trivial ?_);obtain rfl:=oi h;exact AW.ret (qae (.inr rfl) (resT rfl (resT rfl rfl)) rfl ⟨(qar fun _ _=>⟨trivial,trivial⟩),trivial,trivial⟩)
 obtain ⟨hc,h⟩:=cF hc h;refine zac ?_;refine zaa rfl fun K hK=>mv rfl rfl ?_;refine bf hK (P1 [E1,E2,(8,.v (.slice none 0 0))] []) ?_;refine zad (AW.lpR h qa8 (S:=(List UInt8) × (List Int)) (V:=Nat) (fun a v=>⟨[(1,.str a.1),(2,jF p0),E1,E2,(8,.ar 10060 v eInt.k 0 ((a.2).length))],[(10060,v,.arr eInt.k 3 (eInt.E a.2))]⟩) ?_ (X:=(List Int)) (W:=Nat) (fun a v=>⟨[(8,.ar 10060 v eInt.k 0 ((a).length))],[(10060,v,.arr eInt.k 3 (eInt.E a))]⟩) (fun a24 w25 h=>?_) (fun a8 w9 st10 h hr11=> ?_))
 ·refine qeE (qha 10060 8 eInt.k 3 rfl fun v23=>?_)
  exact qaZ (s':=(P1 [E1,E2,(8,.ar 10060 v23 eInt.k 0 ((([]:List Int)).length))] [(10060,v23,.arr eInt.k 3 (eInt.E ([]:List Int)))])) (zam ⟨rfl,rfl,rfl,rfl,arl (by first | rfl | simp only [List.length_set,qcS,qcq,List.length_reverse]),trivial⟩ ⟨rfl,trivial⟩) ⟨v23,rfl⟩
 ·refine zaa rfl fun K hK=>mv rfl rfl (mv rfl rfl (mv rfl rfl ?_))
  refine bf hK ⟨[(4,.ar 10060 w25 eInt.k 0 ((a24).length)),(5,hI 0)],[(10060,w25,.arr eInt.k 3 (eInt.E a24))]⟩ ?_;refine AW.to (qgP 2 [(10060,w25,.arr eInt.k 3 (eInt.E a24))] ⟨[(4,slE eInt a24),(5,hI 0)],[]⟩ ⟨⟨_,rfl,qci eInt (l:=a24) rfl fun _ _=>rfl⟩,⟨_,rfl,rfl⟩,trivial⟩ trivial ⟨rfl,trivial⟩ ⟨rfl,trivial⟩ ?_);obtain rfl:=oi h;exact AW.ret (qae (.inr rfl) (resT rfl (resT rfl rfl)) rfl ⟨(qar fun _ _=>⟨trivial,trivial⟩),trivial,trivial⟩)
 refine zad ?_;refine zaa rfl fun K hK=>mv rfl rfl (bv rfl (qag rfl rfl qpi) ?_);let E3:Nat × HV:=(8,.ar 10060 w9 eInt.k 0 ((a8.2).length));let O4:Nat × Nat × AObj:=(10060,w9,.arr eInt.k 3 (eInt.E a8.2));let P2:ASf:=fun t H=>⟨(1,.str a8.1)::(2,jF p0)::E1::E2::E3::t,O4::H⟩;refine bf hK (P2 [(35,.bool (decide (a8.1≠nS)))] []) ?_;refine zae rfl (fun hc=>?_) (fun hc=>?_)
 ·obtain ⟨hc,h⟩:=cT hc h
  refine zac ?_;refine zaf ?_;refine zad ?_;refine zaa rfl fun K hK=>mv rfl rfl (bv rfl (qeS rfl rfl ty36 rfl rfl) (bv rfl (qag rfl rfl qbB) ?_));refine bf hK (P2 [(38,.bool (decide (0<(((a8.2).length:Nat):Int))))] []) ?_;refine AW.lastJ h (by first | exact qa8 | exact qc3) (S:=(List UInt8)) (V:=Unit) (fun a v=>⟨[(1,.str a),(2,jF p0),E1,E2,E3],[O4]⟩) (fun a12 w13 h=>?_) (fun k14 h=>?_)
  ·refine zao 7 follows rfl rfl fun K hK=>?_
   refine sv rfl (qac qdb rfl) ?_;refine sv rfl (qad ty22 rfl (qaj rfl rfl)) ?_
   iterate 2 refine sm rfl rfl ?_
   obtain ⟨h15,h⟩:=ifN h;refine sv rfl (qc2 ty9 rfl rfl rfl h15) ?_;obtain ⟨x16,h17,h⟩:=bS h;refine s_op rfl rfl (qaV rfl rfl rfl rfl (zai (qcG h17)) ?_);refine sm rfl rfl ?_;refine qb7 ?_;let P3:ASf:=fun t H=>⟨(1,.str a12)::(2,jF p0)::E1::E2::t,H⟩;refine bf hK (P3 [E3,(9,hI x16)] [O4]) ?_;refine zad ?_;refine zaa rfl fun K hK=>mv rfl rfl (bv rfl (qag rfl rfl qaF) ?_);refine bf hK (P3 [E3,(9,hI x16),(56,.bool (decide (x16<0)))] [O4]) ?_;refine zae rfl (fun hc=>?_) (fun hc=>?_)
   ·obtain ⟨hc,h⟩:=cT hc h
    refine zaa rfl fun K hK=>mv rfl rfl (mv rfl rfl ?_);refine bf hK ⟨[(4,.v (.slice none 0 0)),(5,hI 13)],[]⟩ ?_;have h:=hr11 _ h;refine AW.to (qcR ⟨[(4,slE eInt ([]:List Int)),(5,hI 13)],[]⟩ ⟨⟨_,rfl,.nil _⟩,⟨_,rfl,.refl _⟩,trivial⟩ trivial ?_);obtain rfl:=oi h;exact AW.ret (qae (.inr rfl) (resT rfl (resT rfl rfl)) rfl ⟨(qar fun _ _=>⟨trivial,trivial⟩),trivial,trivial⟩)
   obtain ⟨hc,h⟩:=cF hc h;refine zac ?_;refine AW.dl follows fun K hK F hF=>?_;obtain ⟨h180302,h⟩:=ifN h;obtain ⟨h180601,h⟩:=ifN h;refine l_go (L':=[]) hF rfl (s':=(P3 [E3,(9,hI x16)] [O4])) ?_ (le_q rfl rfl);let P:ASf:=fun t H=>⟨(1,.str a12)::(2,jF p0)::(6,hI ((x3).length:Int))::(7,hI ((x5).length:Int))::(8,.ar 10060 w9 eInt.k 0 ((a8.2).length))::t,(10060,w9,.arr eInt.k 3 (eInt.E a8.2))::H⟩
   have g18_10:∀ (v180301:Nat),F [0,1,2,3,4,5,6,7,8] ⟨[(1,.str ((a12.take (((a12).length:Int)).toNat).drop (((x3).length:Int)).toNat)),(2,jF p0),E1,E2,(8,.ar 10060 v180301 eInt.k 0 ((a8.2++[x16]).length))],[(10060,v180301,.arr eInt.k 3 (eInt.E (a8.2++[x16])))]⟩:=by
    intro v180301;refine qig hF rfl rfl (hK _ ?_);exact to_L ⟨((a12.take (((a12).length:Int)).toNat).drop (((x3).length:Int)).toNat,a8.2++[x16]),v180301,h,rfl⟩
   let E5:Nat × HV:=(63,.str ((a12.take (((a12).length:Int)).toNat).drop (((x3).length:Int)).toNat))
   have g18_9:∀ (v180301:Nat),F [0,1,2,3,4,5,6,7] (P3 [(8,.ar 10060 v180301 eInt.k 0 ((a8.2++[x16]).length)),E5] [(10060,v180301,.arr eInt.k 3 (eInt.E (a8.2++[x16])))]):=by
    intro v180301;refine qaT hF rfl [8] rfl rfl ⟨?_,trivial⟩;exact l_ov rfl rfl rfl rfl (qaE rfl rfl).2 (lg hF (g18_10 v180301))
   have g18_8:∀ (v180301:Nat),F [0,1,2,3,4,5,6] (P3 [E3,(60,.ar 10060 v180301 eInt.k 0 ((a8.2++[x16]).length)),E5] [(10060,v180301,.arr eInt.k 3 (eInt.E (a8.2++[x16])))]):=by
    intro v180301;refine qaT hF rfl [7] rfl rfl ⟨?_,trivial⟩;exact l_ov rfl rfl rfl rfl (qaE rfl rfl).2 (lg hF (g18_9 v180301))
   have g18_12:∀ (v180301:Nat),F [0,1,2,3,4,5,7] (P3 [(8,.ar 10060 v180301 eInt.k 0 ((a8.2++[x16]).length)),(61,.str a12),(62,hI ((x3).length:Int))] [(10060,v180301,.arr eInt.k 3 (eInt.E (a8.2++[x16])))]):=by
    intro v180301;refine qaT hF rfl [6] rfl rfl ⟨?_,trivial⟩;exact l_ov rfl rfl rfl rfl (qc2 ty9 rfl rfl rfl h180601) (lg hF (g18_9 v180301))
   have g18_7:F [0,1,2,4,5,6] (P [(57,.ar 10060 w9 eInt.k 0 ((a8.2).length)),(59,slE eInt [x16]),(63,.str ((a12.take (((a12).length:Int)).toNat).drop (((x3).length:Int)).toNat))] []):=by
    refine qaT hF rfl [3] rfl rfl ⟨?_,trivial⟩;refine l_op rfl rfl rfl (qeF eInt (l:=a8.2) (m:=[x16]) rfl rfl ty36 ty36 ty3 rfl rfl rfl rfl rfl h180302 (fun v180301=>?_));exact qab (lg hF (g18_8 v180301))
   have g18_11:∀ (v180301:Nat),F [0,1,2,3,4,5] (P3 [E3,(60,.ar 10060 v180301 eInt.k 0 ((a8.2++[x16]).length)),(61,.str a12),(62,hI ((x3).length:Int))] [(10060,v180301,.arr eInt.k 3 (eInt.E (a8.2++[x16])))]):=by
    intro v180301;refine qaT hF rfl [6,7] rfl rfl ⟨?_,?_,trivial⟩
    ·exact l_ov rfl rfl rfl rfl (qc2 ty9 rfl rfl rfl h180601) (lg hF (g18_8 v180301))
    exact l_ov rfl rfl rfl rfl (qaE rfl rfl).2 (lg hF (g18_12 v180301))
   have g18_5:F [0,1,2,4,5] (P [(57,.ar 10060 w9 eInt.k 0 ((a8.2).length)),(59,slE eInt [x16]),(61,.str a12),(62,hI ((x3).length:Int))] []):=by
    refine qaT hF rfl [3,6] rfl rfl ⟨?_,?_,trivial⟩
    ·refine l_op rfl rfl rfl (qeF eInt (l:=a8.2) (m:=[x16]) rfl rfl ty36 ty36 ty3 rfl rfl rfl rfl rfl h180302 (fun v180301=>?_))
     exact qab (lg hF (g18_11 v180301))
    exact l_ov rfl rfl rfl rfl (qc2 ty9 rfl rfl rfl h180601) (lg hF (g18_7))
   have g18_6:F [0,1,4,5,6] (P [(57,.ar 10060 w9 eInt.k 0 ((a8.2).length)),(58,hI x16),(63,.str ((a12.take (((a12).length:Int)).toNat).drop (((x3).length:Int)).toNat))] []):=by
    refine qaT hF rfl [2] rfl rfl ⟨?_,trivial⟩;refine l_op rfl rfl rfl (qdx rfl rfl (qdp (cs:=[hI x16]) ty36 ty3 rfl rfl rfl rfl rfl) ?_);exact qab (lg hF (g18_7))
   have g18_4:F [0,1,4,5] (P [(57,.ar 10060 w9 eInt.k 0 ((a8.2).length)),(58,hI x16),(61,.str a12),(62,hI ((x3).length:Int))] []):=by
    refine qaT hF rfl [2,6] rfl rfl ⟨?_,?_,trivial⟩
    ·refine l_op rfl rfl rfl (qdx rfl rfl (qdp (cs:=[hI x16]) ty36 ty3 rfl rfl rfl rfl rfl) ?_)
     exact qab (lg hF (g18_5))
    exact l_ov rfl rfl rfl rfl (qc2 ty9 rfl rfl rfl h180601) (lg hF (g18_6))
   have g18_3:F [0,1,4] (P [(57,.ar 10060 w9 eInt.k 0 ((a8.2).length)),(58,hI x16),(61,.str a12)] []):=by
    refine qfR (i:=5) hF rfl rfl rfl (qaE rfl rfl).2 ?_;exact lg hF (g18_4)
   have g18_2:F [0,1] (P [(57,.ar 10060 w9 eInt.k 0 ((a8.2).length)),(58,hI x16)] []):=by
    refine qfR (i:=4) hF rfl rfl rfl (qaE rfl rfl).2 ?_;exact lg hF (g18_3)
   have g18_1:F [0] (P [(9,hI x16),(57,.ar 10060 w9 eInt.k 0 ((a8.2).length))] []):=by
    refine qfR (i:=1) hF rfl rfl rfl (qaE rfl rfl).2 ?_;exact lg hF (g18_2)
   have g18_0:F [] (P [(9,hI x16)] []):=by
    refine qfR (i:=0) hF rfl rfl rfl (qaE rfl rfl).2 ?_;exact lg hF (g18_1)
   exact g18_0
  refine zae rfl (fun hc=>?_) (fun hc=>?_)
  ·obtain ⟨hc,h⟩:=cT hc h
   refine zad ?_;refine zao 7 follows rfl rfl fun K hK=>?_;refine sv rfl (qac qe0 rfl) ?_;refine sv rfl (qad ty22 rfl (qaj rfl rfl)) ?_
   iterate 2 refine sm rfl rfl ?_
   obtain ⟨h19,h⟩:=ifN h;refine sv rfl (qc2 ty9 rfl rfl rfl h19) ?_;obtain ⟨x20,h21,h⟩:=bS h;refine s_op rfl rfl (qaV rfl rfl rfl rfl (zai (qcl h21)) ?_);refine sv rfl (qdX rfl) ?_;refine qb7 ?_;refine bf hK (P2 [(45,.bool (!x20))] []) ?_;refine zae rfl (fun hc=>?_) (fun hc=>?_)
   ·have h:=ifT hc h
    refine zaa rfl fun K hK=>mv rfl rfl (mv rfl rfl ?_);refine bf hK ⟨[(4,.v (.slice none 0 0)),(5,hI 13)],[]⟩ ?_;have h:=hr11 _ h;refine AW.to (qcR ⟨[(4,slE eInt ([]:List Int)),(5,hI 13)],[]⟩ ⟨⟨_,rfl,.nil _⟩,⟨_,rfl,.refl _⟩,trivial⟩ trivial ?_);obtain rfl:=oi h;exact AW.ret (qae (.inr rfl) (resT rfl (resT rfl rfl)) rfl ⟨(qar fun _ _=>⟨trivial,trivial⟩),trivial,trivial⟩)
   have h:=ifF (bF' hc) h;refine zac ?_;refine zab rfl fun K hK=>mv rfl rfl (mv rfl rfl ?_);obtain ⟨h22,h⟩:=ifN h;refine bv rfl (qc2 ty9 rfl rfl rfl h22) (mv rfl rfl ?_);refine qab (hK _ ?_);exact to_L ⟨(a8.1.take (((a8.1).length:Int)).toNat).drop (((x5).length:Int)).toNat,(),h,rfl⟩
  obtain ⟨hc,h⟩:=cF hc h;refine zac ?_;exact to_L ⟨a8.1,(),h,rfl⟩
 obtain ⟨hc,h⟩:=cF hc h;refine AW.exit ?_;exact to_L ⟨a8.2,w9,h,rfl⟩
theorem qdL {p0:List (Int)} {p1:List (Int)} {r:Bool} (h:qa0 p0 p1=some r):Pure Tryz.prog 12 [slE eInt p0,slE eInt p1] (· = HV.bool r):=by
 unfold qa0 at h;refine zaj Tryz.func12 rfl rfl (lb rfl) fun hf=>?_;unfold Tryz.f12;dsimp only [qaL,Nat.reduceAdd];refine zaa rfl fun K hK=>mv rfl rfl ?_;let P4:ASf:=fun t H=>⟨(0,slE eInt p0)::(1,slE eInt p1)::t,H⟩;refine bf hK (P4 [] []) ?_;refine zad ?_;refine zaa rfl fun K hK=>mv rfl rfl (bv rfl (qav rfl rfl ty36 rfl) (mv rfl rfl (bv rfl (qav rfl rfl ty36 rfl) (bv rfl (qag rfl rfl qcv) ?_))));refine bf hK (P4 [(10,.bool (decide (((p0).length:Int)≠((p1).length:Int))))] []) ?_;refine zae rfl (fun hc=>?_) (fun hc=>?_)
 ·obtain ⟨hc,h⟩:=cT hc h
  refine zaa rfl fun K hK=>mv rfl rfl ?_;refine bf hK ⟨[(4,.bool false)],[]⟩ ?_;obtain rfl:=oi h;exact AW.ret (qae (.inr rfl) (resT rfl rfl) rfl trivial)
 obtain ⟨hc,h⟩:=cF hc h;refine zac ?_;refine zad ?_;refine zaa rfl fun K hK=>mv rfl rfl (bv rfl (qav rfl rfl ty36 rfl) (mv rfl rfl ?_));let E6:Nat × HV:=(12,hI ((p0).length:Int));refine bf hK (P4 [E6,(13,hI 0)] []) ?_;refine AW.lpR h (by first | exact qa8 | exact qc3) (S:=Int) (V:=Unit) (fun a v=>(P4 [E6,(13,hI a)] [])) ?_ (X:=Unit) (W:=Unit) (fun a v=>⟨[],[]⟩) (fun a9 w10 h=>?_) (fun a1 w2 st3 h hr4=> ?_)
 ·exact to_L ⟨(),rfl⟩
 ·refine zaa rfl fun K hK=>mv rfl rfl ?_
  refine bf hK ⟨[(4,.bool true)],[]⟩ ?_;obtain rfl:=oi h;exact AW.ret (qae (.inr rfl) (resT rfl rfl) rfl trivial)
 refine zaa rfl fun K hK=>bv rfl (qag rfl rfl qaF) ?_;refine bf hK (P4 [E6,(13,hI a1),(14,.bool (decide (a1<((p0).length:Int))))] []) ?_;refine zak rfl (fun hc=>?_) (fun hc=>?_)
 ·obtain ⟨hc,h⟩:=cT hc h
  refine zac ?_;refine zad (zaf ?_);refine zaa rfl fun K hK=>mv rfl rfl (mv rfl rfl ?_);refine bf hK (P4 [(5,hI a1),E6,(13,hI a1)] []) ?_;refine zao 9 follows rfl rfl fun K hK=>?_
  iterate 2 refine sm rfl rfl ?_
  obtain ⟨x5,h6,h⟩:=bS h;refine sv rfl (qaI ty36 es36 rfl rfl (qay h6)) ?_;refine sv rfl (qad ty3 rfl (qaW eInt h6 (o:=0) rfl rfl)) ?_
  iterate 2 refine sm rfl rfl ?_
  obtain ⟨x7,h8,h⟩:=bS h;refine sv rfl (qaI ty36 es36 rfl rfl (qay h8)) ?_;refine sv rfl (qad ty3 rfl (qaW eInt h8 (o:=0) rfl rfl)) ?_;refine sv rfl (qag rfl rfl qcv) ?_;refine qb7 ?_;refine bf hK (P4 [E6,(13,hI a1),(24,.bool (decide (x5≠x7)))] []) ?_;refine zae rfl (fun hc=>?_) (fun hc=>?_)
  ·obtain ⟨hc,h⟩:=cT hc h
   refine zaa rfl fun K hK=>mv rfl rfl ?_;refine bf hK ⟨[(4,.bool false)],[]⟩ ?_;have h:=hr4 _ h;obtain rfl:=oi h;exact AW.ret (qae (.inr rfl) (resT rfl rfl) rfl trivial)
  obtain ⟨hc,h⟩:=cF hc h;refine zac ?_;refine zab rfl fun K hK=>bv rfl (qag rfl rfl qaX) (mv rfl rfl ?_);refine qab (hK _ ?_);exact to_L ⟨IntKind.wrap .i64 (a1+1),(),h,rfl⟩
 obtain ⟨hc,h⟩:=cF hc h;refine AW.exit ?_;exact to_L ⟨(),(),h,rfl⟩
theorem qit {p0:List (Int)} {r:Bool} (h:qbL p0=some r):Pure Tryz.prog 99 [slE eInt p0] (· = HV.bool r):=by
 unfold qbL at h;refine zaj Tryz.func99 rfl rfl (lb rfl) fun hf=>?_;unfold Tryz.f99;dsimp only [qaL,Nat.reduceAdd];refine zaa rfl fun K hK=>mv rfl rfl ?_;refine bf hK ⟨[],[]⟩ ?_;refine zaa rfl fun K hK=>mv rfl rfl ?_;refine bf hK ⟨[(2,.bool true)],[]⟩ ?_;obtain rfl:=oi h;exact AW.ret (qae (.inr rfl) (resT rfl rfl) rfl trivial)
theorem qfT (p0:qaa):Pure Tryz.prog 114 [gA p0] (· = HV.fn (.func 135) [] [gF p0]):=by
 refine zaj Tryz.func114 rfl rfl (lb rfl) fun hf=>?_;unfold Tryz.f114;dsimp only [qaL,Nat.reduceAdd];refine zaa rfl fun K hK=>b_op rfl (qbh rfl rfl rfl ?_);refine mv rfl rfl ?_;refine bf hK ⟨[(1,gF p0)],[]⟩ ?_;refine zaa rfl fun K hK=>bv rfl (qeT rfl rfl) (mv rfl rfl ?_);refine bf hK ⟨[(2,.fn (.func 135) [] [gF p0])],[]⟩ ?_;refine AW.ret ?_;exact qae (.inr rfl) (resT rfl rfl) rfl ⟨trivial,⟨⟨trivial,trivial,(qar fun _ _=>⟨trivial,trivial,trivial,trivial⟩),trivial⟩,trivial⟩⟩
theorem qis {p0:qaa} {r:(List (List (Int))) × Int} (h:qdt p0=some r):Pure Tryz.prog 98 [gA p0,.fn (.func 99) [] []] (· = HV.tup [slE (eSl eInt) r.1,hI r.2]):=by
 unfold qdt at h;refine zaj Tryz.func98 rfl rfl (lb rfl) fun hf=>?_;unfold Tryz.f98;dsimp only [qaL,Nat.reduceAdd];refine zaa rfl fun K hK=>b_op rfl (qbh rfl rfl rfl ?_);refine b_op rfl (qbh rfl rfl rfl ?_);refine mv rfl rfl (mv rfl rfl ?_);let E7:Nat × HV:=(3,.fptr [.fn (.func 99) [] []] 0);refine bf hK ⟨[(2,gF p0),E7],[]⟩ ?_;refine zad ?_;refine zaa rfl fun K hK=>bv rfl (qad ty27 rfl (qao rfl (lb rfl) rfl)) ?_;obtain ⟨x1,h2,h⟩:=bS h;refine b_op rfl (qat rfl rfl rfl rfl (zai (qc0 h2)) ?_);refine bv rfl (qag rfl rfl qcv) ?_;refine bf hK ⟨[(2,gF p0),E7,(10,.bool (decide (x1≠0)))],[]⟩ ?_;refine zae rfl (fun hc=>?_) (fun hc=>?_)
 ·obtain ⟨hc,h⟩:=cT hc h
  refine zaa rfl fun K hK=>mv rfl rfl (mv rfl rfl ?_);refine bf hK ⟨[(4,.v (.slice none 0 0)),(5,hI 1)],[]⟩ ?_;refine AW.to (qcR ⟨[(4,slE (eSl eInt) ([]:List (List (Int)))),(5,hI 1)],[]⟩ ⟨⟨_,rfl,.nil _⟩,⟨_,rfl,.refl _⟩,trivial⟩ trivial ?_);obtain rfl:=oi h;exact AW.ret (qae (.inr rfl) (resT rfl (resT rfl rfl)) rfl ⟨(qar fun _ _=>⟨(qar fun _ _=>⟨trivial,trivial⟩),trivial⟩),trivial,trivial⟩)
 obtain ⟨hc,h⟩:=cF hc h;refine zac ?_;refine zaa rfl fun K hK=>b_op rfl (qaC (fid:=98) (zs:=[.v (.slice none 0 0)]) 98006 rfl rfl qfU rfl (fun v3=>?_));refine bf hK ⟨[(2,gF p0),E7,(6,.ptr 98006 v3 0)],[(98006,v3,.arr 1 121 [.v (.slice none 0 0)])]⟩ ?_;refine zad ?_;refine zaa rfl fun K hK=>bv rfl (qad ty27 rfl (qao rfl (lb rfl) rfl)) ?_;refine b_op rfl (qat rfl rfl rfl rfl (zai (qfT p0)) ?_);refine bf hK ⟨[E7,(6,.ptr 98006 v3 0),(12,.fn (.func 135) [] [gF p0])],[(98006,v3,.arr 1 121 [.v (.slice none 0 0)])]⟩ ?_;refine zaf ?_;refine AW.to (qhM 98020 98006 v3 1 0 (eSl eInt).k 36 121 rfl rfl (by decide) fun v4=>?_);refine AW.to (qaZ (s':=⟨[E7,(6,.ptr 98006 v3 0),(12,.fn (.func 135) [] [gF p0])],[(98006,v3,.arr 1 121 [.ar 98020 v4 (eSl eInt).k 0 ((([]:List (List (Int)))).length)]),(98020,v4,.arr (eSl eInt).k 36 ((eSl eInt).E ([]:List (List (Int)))))]⟩) (zam ⟨rfl,rfl,rfl,trivial⟩ ⟨hle rfl (by first | rfl | simp only [List.length_set,qcS,qcq,List.length_reverse]),rfl,trivial⟩) ?_);obtain ⟨L5,h6,h⟩:=bS h;refine AW.rangeY (c:=.ret) 98900 (fun x=>[slE eInt x]) h (by first | exact qa8 | exact qc3) rfl (qfD h6) (S:=(List (List (Int)))) (V:=Nat) (fun a v=>[(98006,v3,.arr 1 121 [.ar 98020 v (eSl eInt).k 0 ((a).length)]),(98020,v,.arr (eSl eInt).k 36 ((eSl eInt).E a))]) v4 (X:=Unit) (W:=Unit) (fun _ _=>[]) (fun _ _=>rfl) (fun _ _=>rfl) rfl (fun _=>rfl) (fun a17 w18 h=>?_) (fun a19 w20 h=>?_) (fun Lo l12 v10 a7 x9 w8 st11 h=>?_)
 ·refine zaa rfl fun K hK=>bv rfl (qaf qfU rfl rfl (qaj rfl rfl)) (mv rfl rfl (mv rfl rfl ?_))
  refine bf hK ⟨[(4,.ar 98020 w18 (eSl eInt).k 0 ((a17).length)),(5,hI 0)],[(98020,w18,.arr (eSl eInt).k 36 ((eSl eInt).E a17))]⟩ ?_;refine AW.to (qgP 2 [(98020,w18,.arr (eSl eInt).k 36 ((eSl eInt).E a17))] ⟨[(4,slE (eSl eInt) a17),(5,hI 0)],[]⟩ ⟨⟨_,rfl,qci (eSl eInt) (l:=a17) rfl fun _ _=>rfl⟩,⟨_,rfl,rfl⟩,trivial⟩ trivial ⟨rfl,trivial⟩ ⟨rfl,trivial⟩ ?_);obtain rfl:=oi h;exact AW.ret (qae (.inr rfl) (resT rfl (resT rfl rfl)) rfl ⟨(qar fun _ _=>⟨(qar fun _ _=>⟨trivial,trivial⟩),trivial⟩),trivial,trivial⟩)
 ·cases h
 refine zab rfl fun K hK=>mv rfl rfl ?_;refine qab (hK _ ?_);refine ⟨rfl,rfl,?_⟩;refine zaf ?_;refine zaa rfl fun K hK=>bv rfl (qad qr6 rfl (qaj rfl rfl)) (mv rfl rfl ?_);obtain ⟨x13,h14,h⟩:=bS h;refine b_op rfl (qat rfl rfl rfl rfl (zai (qit h14)) ?_);refine bf hK ⟨[E7,(6,.ptr 98006 v3 0),(7,slE eInt x9),(13,slE eInt x9),(16,.bool x13)],[(98900,v10,Lo .busy none),(98006,v3,.arr 1 121 [.ar 98020 w8 (eSl eInt).k 0 ((a7).length)]),(98020,w8,.arr (eSl eInt).k 36 ((eSl eInt).E a7))]⟩ ?_;refine zae rfl (fun hc=>?_) (fun hc=>?_)
 ·have h:=ifT hc h
  refine zab rfl fun K hK=>bv rfl (qaf qfU rfl rfl (qaj rfl rfl)) (mv rfl rfl ?_);refine b_op rfl (qdx rfl rfl (qdp (cs:=[slE eInt x9]) qfU ty36 rfl rfl rfl rfl rfl) ?_);obtain ⟨h16,h⟩:=ifN h;refine b_op rfl (qeF (eSl eInt) (l:=a7) (m:=[x9]) rfl rfl qfU qfU ty36 rfl rfl rfl rfl rfl h16 (fun v15=>?_));refine b_op rfl (qax (cs:=[.ar 98020 v15 (eSl eInt).k 0 ((a7++[x9]).length)]) (zs:=[.ar 98020 v15 (eSl eInt).k 0 ((a7++[x9]).length)]) rfl rfl rfl qfU rfl rfl rfl rfl rfl ?_);refine qab (hK _ ?_);exact ⟨a7++[x9],v15,h,(zam trivial ⟨rfl,rfl,rfl,trivial⟩)⟩
 have h:=ifF (bF' hc) h;refine zac ?_;exact ⟨a7,w8,h,(zam trivial ⟨rfl,rfl,rfl,trivial⟩)⟩
theorem qjG {p0:qaa} {r:(List (List (Int))) × Int} (h:qdm p0=some r):Pure Tryz.prog 65 [gA p0] (· = HV.tup [slE (eSl eInt) r.1,hI r.2]):=by
 unfold qdm at h;refine zaj Tryz.func65 rfl rfl (lb rfl) fun hf=>?_;unfold Tryz.f65;dsimp only [qaL,Nat.reduceAdd];refine zaa rfl fun K hK=>b_op rfl (qbh rfl rfl rfl ?_);refine mv rfl rfl (mv rfl rfl ?_);refine bf hK ⟨[(1,gF p0)],[]⟩ ?_;refine zaa rfl fun K hK=>bv rfl (qad ty27 rfl (qao rfl (lb rfl) rfl)) ?_;obtain ⟨x1,h2,h⟩:=bS h;refine b_op rfl (qat rfl rfl rfl rfl (zai (qis h2)) ?_);refine bv rfl (qak rfl rfl) (bv rfl (qak rfl rfl) (mv rfl rfl (mv rfl rfl ?_)));refine bf hK ⟨[(2,slE (eSl eInt) x1.1),(3,hI x1.2)],[]⟩ ?_;obtain rfl:=oi h;exact AW.ret (qae (.inr rfl) (resT rfl (resT rfl rfl)) rfl ⟨(qar fun _ _=>⟨(qar fun _ _=>⟨trivial,trivial⟩),trivial⟩),trivial,trivial⟩)
theorem qfp {p0:qaa} {r:Bool × Int} (h:qbm p0=some r):Pure Tryz.prog 37 [gA p0] (· = HV.tup [.bool r.1,hI r.2]):=by
 unfold qbm at h;refine zaj Tryz.func37 rfl rfl (lb rfl) fun hf=>?_;unfold Tryz.f37;dsimp only [qaL,Nat.reduceAdd];refine zaa rfl fun K hK=>b_op rfl (qbh rfl rfl rfl ?_);refine mv rfl rfl (mv rfl rfl ?_);refine bf hK ⟨[(1,gF p0)],[]⟩ ?_;refine zaa rfl fun K hK=>bv rfl (qad ty27 rfl (qao rfl (lb rfl) rfl)) ?_;obtain ⟨x1,h2,h⟩:=bS h;refine b_op rfl (qat rfl rfl rfl rfl (zai (qjG h2)) ?_);refine mv rfl rfl (bv rfl (qak rfl rfl) (bv rfl (qak rfl rfl) (mv rfl rfl (mv rfl rfl ?_))));refine bf hK ⟨[(1,gF p0),(4,slE (eSl eInt) x1.1),(5,hI x1.2)],[]⟩ ?_;refine zag h (S:=Bool) (V:=Unit) (fun a v=>⟨[(2,.bool a),(3,hI x1.2)],[]⟩) (fun a3 w4 h=>?_) (fun k5 h=>?_)
 ·obtain rfl:=oi h
  exact AW.ret (qae (.inr rfl) (resT rfl (resT rfl rfl)) rfl ⟨trivial,trivial,trivial⟩)
 refine zab rfl fun K hK=>mv rfl rfl (bv rfl (qag rfl rfl qdT) (mv rfl rfl ?_));by_cases hg7:x1.2=0
 ·have h:=ifT hg7 h
  refine b_T rfl rfl rfl rfl (decide_eq_true hg7) (qai rfl (qaE rfl rfl).2 ?_);refine b_T rfl rfl rfl rfl rfl (qai rfl (qav rfl rfl qfU rfl) ?_);refine b_T rfl rfl rfl rfl rfl (qai rfl (qag rfl rfl qdT) ?_);refine bv rfl (qan rfl rfl rfl) (mv rfl rfl ?_);by_cases hg6:((x1.1).length:Int)=1
  ·have h:=ifT hg6 h
   refine b_T rfl rfl rfl rfl (decide_eq_true hg6) (qai rfl (qac qea rfl) ?_);refine b_T rfl rfl rfl rfl rfl (qai rfl (qad ty25 rfl (qaj rfl rfl)) ?_);refine b_T rfl rfl rfl rfl rfl (qai rfl (qav rfl rfl ty25 rfl) ?_);refine b_T rfl rfl rfl rfl rfl (qai rfl (qag rfl rfl qbB) ?_);refine bv rfl (qan rfl rfl rfl) (mv rfl rfl (mv rfl rfl (mv rfl rfl ?_)));refine qab (hK _ ?_);exact to_L ⟨decide (0<((p0.2.2).length:Int)),(),h,rfl⟩
  have h:=ifF hg6 h;refine b_F rfl rfl rfl rfl rfl (decide_eq_false hg6) ?_
  iterate 3 refine b_F rfl rfl rfl rfl rfl rfl ?_
  refine bv rfl (qau rfl rfl rfl) (mv rfl rfl (mv rfl rfl (mv rfl rfl ?_)));refine qab (hK _ ?_);exact to_L ⟨false,(),h,rfl⟩
 have h:=ifF hg7 h;refine b_F rfl rfl rfl rfl rfl (decide_eq_false hg7) ?_
 iterate 2 refine b_F rfl rfl rfl rfl rfl rfl ?_
 refine bv rfl (qau rfl rfl rfl) (mv rfl rfl ?_)
 iterate 4 refine b_F rfl rfl rfl rfl rfl rfl ?_
 refine bv rfl (qau rfl rfl rfl) (mv rfl rfl (mv rfl rfl (mv rfl rfl ?_)));refine qab (hK _ ?_);exact to_L ⟨false,(),h,rfl⟩
theorem qg8 {p0:qaa} {p1:Int} {r:Int} (h:qcf p0 p1=some r):Pure Tryz.prog 66 [gA p0,hI p1] (· = hI r):=by
 unfold qcf at h;refine zaj Tryz.func66 rfl rfl (lb rfl) fun hf=>?_;unfold Tryz.f66;dsimp only [qaL,Nat.reduceAdd];refine zaa rfl fun K hK=>b_op rfl (qbh rfl rfl rfl ?_);refine mv rfl rfl ?_;refine bf hK ⟨[(1,hI p1),(2,gF p0)],[]⟩ ?_;refine zad ?_;refine zaa rfl fun K hK=>bv rfl (qad ty27 rfl (qao rfl (lb rfl) rfl)) ?_;obtain ⟨x1,h2,h⟩:=bS h;refine b_op rfl (qat rfl rfl rfl rfl (zai (qfP h2)) ?_);refine mv rfl rfl ?_;refine bf hK ⟨[(1,hI p1),(5,hI x1)],[]⟩ ?_;refine zaa rfl fun K hK=>mv rfl rfl (bv rfl (qag rfl rfl qcv) ?_);refine bf hK ⟨[(1,hI p1),(5,hI x1),(9,.bool (decide (x1≠0)))],[]⟩ ?_;refine zae rfl (fun hc=>?_) (fun hc=>?_)
 ·obtain ⟨hc,h⟩:=cT hc h
  refine zaa rfl fun K hK=>mv rfl rfl (mv rfl rfl ?_);refine bf hK ⟨[(4,hI x1)],[]⟩ ?_;obtain rfl:=oi h;exact AW.ret (qae (.inr rfl) (resT rfl rfl) rfl trivial)
 obtain ⟨hc,h⟩:=cF hc h;refine zac ?_;refine zad ?_;refine zag h (S:=Bool) (V:=Unit) (fun a v=>⟨[(16,.bool a)],[]⟩) (fun a3 w4 h=>?_) (fun k5 h=>?_)
 ·refine zae rfl (fun hc=>?_) (fun hc=>?_)
  ·have h:=ifT hc h
   refine zaa rfl fun K hK=>mv rfl rfl ?_;refine bf hK ⟨[(4,hI 2)],[]⟩ ?_;obtain rfl:=oi h;exact AW.ret (qae (.inr rfl) (resT rfl rfl) rfl trivial)
  have h:=ifF (bF' hc) h;refine zac ?_;refine zaa rfl fun K hK=>mv rfl rfl ?_;refine bf hK ⟨[(4,hI 0)],[]⟩ ?_;obtain rfl:=oi h;exact AW.ret (qae (.inr rfl) (resT rfl rfl) rfl trivial)
 refine zab rfl fun K hK=>mv rfl rfl (bv rfl (qag rfl rfl qaF) (mv rfl rfl ?_));by_cases hg6:p1<0
 ·have h:=ifT hg6 h
  refine b_F rfl rfl rfl rfl rfl (decide_eq_true hg6) ?_;refine b_F rfl rfl rfl rfl rfl rfl ?_;refine bv rfl (qan rfl rfl rfl) ?_;refine qab (hK _ ?_);exact to_L ⟨true,(),h,rfl⟩
 have h:=ifF hg6 h;refine b_T rfl rfl rfl rfl (decide_eq_false hg6) (qai rfl (qaE rfl rfl).2 ?_);refine b_T rfl rfl rfl rfl rfl (qai rfl (qag rfl rfl qbB) ?_);refine bv rfl (qau rfl rfl rfl) ?_;refine qab (hK _ ?_);exact to_L ⟨decide (4096<p1),(),h,rfl⟩
theorem qiq {p0:qaa} {p1:Int} {r:(List (List UInt8)) × Int} (h:qbt p0 p1=some r):Pure Tryz.prog 38 [gA p0,hI p1] (· = HV.tup [slE eStr r.1,hI r.2]):=by
 unfold qbt at h;refine zaj Tryz.func38 rfl rfl (lb rfl) fun hf=>?_;unfold Tryz.f38;dsimp only [qaL,Nat.reduceAdd];refine zaa rfl fun K hK=>b_op rfl (qbh rfl rfl rfl ?_);refine mv rfl rfl (mv rfl rfl ?_);refine bf hK ⟨[(1,hI p1),(2,gF p0)],[]⟩ ?_;refine zad ?_;refine zaa rfl fun K hK=>bv rfl (qad ty27 rfl (qao rfl (lb rfl) rfl)) (mv rfl rfl ?_);obtain ⟨x1,h2,h⟩:=bS h;refine b_op rfl (qat rfl rfl rfl rfl (zai (qg8 h2)) ?_);refine mv rfl rfl ?_;refine bf hK ⟨[(1,hI p1),(2,gF p0),(6,hI x1)],[]⟩ ?_;refine zaa rfl fun K hK=>mv rfl rfl (bv rfl (qag rfl rfl qcv) ?_);refine bf hK ⟨[(1,hI p1),(2,gF p0),(6,hI x1),(13,.bool (decide (x1≠0)))],[]⟩ ?_;refine zae rfl (fun hc=>?_) (fun hc=>?_)
 ·obtain ⟨hc,h⟩:=cT hc h
  refine zaa rfl fun K hK=>mv rfl rfl (mv rfl rfl (mv rfl rfl ?_));refine bf hK ⟨[(4,.v (.slice none 0 0)),(5,hI x1)],[]⟩ ?_;refine AW.to (qcR ⟨[(4,slE eStr ([]:List (List UInt8))),(5,hI x1)],[]⟩ ⟨⟨_,rfl,.nil _⟩,⟨_,rfl,.refl _⟩,trivial⟩ trivial ?_);obtain rfl:=oi h;exact AW.ret (qae (.inr rfl) (resT rfl (resT rfl rfl)) rfl ⟨(qar fun _ _=>⟨trivial,trivial⟩),trivial,trivial⟩)
 obtain ⟨hc,h⟩:=cF hc h;refine zac ?_;refine AW.dys follows fun K hK=>?_;refine y_st 4 rfl rfl ?_;refine sv rfl (qad ty27 rfl (qao rfl (lb rfl) rfl)) ?_;refine sv rfl (qad ty27 rfl (qao rfl (lb rfl) rfl)) ?_;obtain ⟨x3,h4,h⟩:=bS h;refine s_op rfl rfl (qaV rfl rfl rfl rfl (zai (qfe h4)) ?_);refine sm rfl rfl ?_;refine qb7 ?_;obtain ⟨x5,h6,h⟩:=bS h;by_cases hg7:x5.2=true
 ·have h:=ifT hg7 h
  refine y_op rfl rfl rfl rfl (qdd rfl rfl rfl rfl (qrR h6 hg7 fun i8 v9 es10 hes11=>?_) );refine qab ?_;refine y_st 10 rfl rfl ?_;refine sm rfl rfl ?_;refine sv rfl (qak rfl rfl) ?_;refine sv rfl (qak rfl rfl) ?_
  iterate 2 refine sm rfl rfl ?_
  refine qb7 ?_;refine qrd rfl (hK _ (AW.to (qaZ (s':=⟨[(7,.mp i8 v9),(8,.bool true)],[(i8,v9,.map es10)]⟩) (zam ⟨rfl,rfl,trivial⟩ ⟨qda,trivial⟩) ?_)));refine zad ?_;refine zaa rfl fun K hK=>mv rfl rfl (bv rfl (qdX rfl) ?_);refine qmw hK (s':=⟨[(7,.mp i8 v9),(24,.bool false)],[(i8,v9,.map es10)]⟩) (zam ⟨rfl,rfl,trivial⟩ ⟨qda,trivial⟩) ?_;refine zae rfl (fun hc=>by cases hc) (fun _=>?_);refine zac ?_;refine zaa rfl fun K hK=>mv rfl rfl ?_;refine b_op rfl (qmb [(i8,v9,.map es10)] rfl rfl rfl rfl (fun K hK=>w82 hK) ?_);refine b_op rfl (qmb (q:=slE eStr (sortS ((x5.1).map Prod.fst))) [] rfl rfl rfl rfl (fun K hK=>qlL hes11 hK) ?_);refine mv rfl rfl (mv rfl rfl ?_);refine bf hK ⟨[(4,slE eStr (sortS ((x5.1).map Prod.fst))),(5,hI 0)],[]⟩ ?_;obtain rfl:=oi h;exact AW.ret (qae (.inr rfl) (resT rfl (resT rfl rfl)) rfl ⟨(qar fun _ _=>⟨trivial,trivial⟩),trivial,trivial⟩)
 have h:=ifF hg7 h;refine y_op rfl rfl rfl rfl (qdd rfl rfl rfl rfl (qrS h6 hg7 ?_) );refine qab ?_;refine y_st 10 rfl rfl ?_;refine sm rfl rfl ?_;refine sv rfl (qak rfl rfl) ?_;refine sv rfl (qak rfl rfl) ?_
 iterate 2 refine sm rfl rfl ?_
 refine qb7 ?_;refine qrd rfl (hK _ (AW.to (qaZ (s':=⟨[(7,.v (.map none)),(8,.bool false)],[]⟩) (le_q rfl rfl) ?_)));refine zad ?_;refine zaa rfl fun K hK=>mv rfl rfl (bv rfl (qdX rfl) ?_);refine bf hK ⟨[(7,.v (.map none)),(24,.bool true)],[]⟩ ?_;refine zae rfl (fun _=>?_) (fun hc=>by cases hc);refine zaa rfl fun K hK=>mv rfl rfl (mv rfl rfl ?_);refine bf hK ⟨[(4,.v (.slice none 0 0)),(5,hI 4)],[]⟩ ?_;refine AW.to (qcR ⟨[(4,slE eStr ([]:List (List UInt8))),(5,hI 4)],[]⟩ ⟨⟨_,rfl,.nil _⟩,⟨_,rfl,.refl _⟩,trivial⟩ trivial ?_);obtain rfl:=oi h;exact AW.ret (qae (.inr rfl) (resT rfl (resT rfl rfl)) rfl ⟨(qar fun _ _=>⟨trivial,trivial⟩),trivial,trivial⟩)
end Go.AW
end
