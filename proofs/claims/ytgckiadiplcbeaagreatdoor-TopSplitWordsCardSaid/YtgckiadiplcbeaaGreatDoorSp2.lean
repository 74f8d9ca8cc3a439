import Derived.Test.YtgckiadiplcbeaaGreatDoorSp1
namespace Go.AW
open Go
def inL (t:Nat):List Nat→Bool
 | []=>false
 | k::ks=>if t=k then true else inL t ks
def skeep (ks:List Nat):List (Nat × HV)→List (Nat × HV)
 | []=>[]
 | (i,h)::l=>if inL i ks then (i,h)::skeep ks l else skeep ks l
theorem sget_skeep (ks:List Nat):∀ (l:List (Nat × HV)) (t:Nat),sget (skeep ks l) t=if inL t ks then sget l t else none
 | [],t=>by simp [skeep,sget]
 | (i,h)::l,t=>by
  simp only [skeep];by_cases hi:inL i ks=true
  ·rw [if_pos hi]
   simp only [sget,sget_skeep ks l t];by_cases ht:t=i
   ·subst ht; simp [hi]
   simp [ht]
  rw [if_neg hi,sget_skeep ks l t];simp only [sget];by_cases ht:t=i
  ·subst ht; simp [hi]
  simp [ht]
def AS.keep (s:AS) (ks:List Nat):AS:={ s with slots:=skeep ks s.slots }
theorem AS.le_keep (s:AS) (ks:List Nat):s.le (s.keep ks):=by
 refine ⟨fun t hv h=>?_,fun _ _ h=>h⟩;simp only [AS.keep,sget_skeep] at h;split at h
 ·exact h
 cases h
def cid (fid:Nat) (d:Option Tmp):Nat:=match d with
 | some t=>fid*1000+t
 | none=>fid*1000+999
def isMut (mt:List Nat) (d:Option Tmp):Bool:=match d with
 | some t=>inL t mt
 | none=>false
def isStr:HV→Bool
 | .str _=>true
 | _=>false
def aop (P:Program) (fid:Nat) (mt:List Nat) (o:Oper) (K:AS→Prop) (s:AS):Prop :=
 match o.op with
 | .box e x=>match s.ev x with
  | some hv=>match hv.cells? with
   | some cs=>if isMut mt o.dst then ∀ ver,K (({ s with heap:=hset s.heap (cid fid o.dst) ver (.arr cs.length e cs) }:AS).put o.dst (.ptr (cid fid o.dst) ver 0)) else K (s.put o.dst (.fptr cs 0))
   | none=>False
  | none=>False
 | .alloc e=>match ty P e with
  | some T=>match zcells T.zero with
   | some zs=>∀ ver,K (({ s with heap:=hset s.heap (cid fid o.dst) ver (.arr zs.length e zs) }:AS).put o.dst (.ptr (cid fid o.dst) ver 0))
   | none=>False
  | none=>False
 | .store t x y=>match s.ev x,s.ev y,ty P t with
  | some (.ptr id ver off),some hv,some T=>match hv.cells?,hget s.heap id with
   | some cs,some (ver',.arr k e xs)=>ver'=ver∧T.size=cs.length∧off+cs.length≤xs.length∧K (({ s with heap:=hset s.heap id ver (.arr k e (splice xs off cs)) }:AS).put o.dst (.v undef))
   | _,_=>False
  | _,_,_=>False
 | .buildSlice t n ps=>n≤16777216∧aslice P s t n ps.toList fun k e cs =>
   if isMut mt o.dst || n == 0 then ∀ ver,K (({ s with heap:=hset s.heap (cid fid o.dst) ver (.arr k e cs) }:AS).put o.dst (.ar (cid fid o.dst) ver k 0 n)) else K (s.put o.dst (.sl k n cs))
 | .makeSlice t x y=>match ty P t,s.ev x,s.ev y with
  | some ⟨.slice e,_,_,_⟩,some (.int .i64 l),some (.int .i64 c)=>match ty P e with
   | some Te=>match zcells Te.zero with
    | some zs=>zs.length=Te.size∧0≤l∧l≤c∧c*Te.bytes≤281474976710656∧∀ ver,K (({ s with heap:=hset s.heap (cid fid o.dst) ver (.arr Te.size e (zrep zs l.toNat)) }:AS).put o.dst (.ar (cid fid o.dst) ver Te.size 0 l.toNat))
    | none=>False
   | none=>False
  | _,_,_=>False
 | .call ⟨.builtin .append,aa,ts⟩=>match aa.toList,ts.toList with
  | [x,y],[t,xt]=>match ty P t,s.ev x,s.ev y with
   | some ⟨.slice e,_,_,_⟩,some hx,some hy=>match ty P e with
    | some Te=>(zcells Te.zero).any (fun zs=>zs.length == Te.size)=true∧abase s Te.size e hx fun n cs=>asrc P s xt Te.size hy fun m ds =>
      (n+m)*Te.bytes≤140737488355328∧n+m≤maxLen∧∀ ver,K (({ s with heap:=hset s.heap (baseId hx (cid fid o.dst)) ver (.arr Te.size e (cs++ds)) }:AS).put o.dst (.ar (baseId hx (cid fid o.dst)) ver Te.size 0 (n+m)))
    | none=>False
   | _,_,_=>False
  | _,_=>False
 | .call ⟨.builtin .clear,aa,ts⟩=>match aa.toList,ts.toList with
  | [x],[t]=>match ty P t,s.ev x with
   | some ⟨.slice e,_,_,_⟩,some (.ar id ver _ off n)=>match ty P e,hget s.heap id with
    | some Te,some (ver',.arr k' e' xs)=>match zcells Te.zero with
     | some [z]=>ver'=ver∧off+n≤xs.length∧K (({ s with heap:=hset s.heap id ver (.arr k' e' (xs.take off++List.replicate n z++xs.drop (off+n))) }:AS).put o.dst (.tup []))
     | _=>False
    | _,_=>False
   | _,_=>False
  | _,_=>False
 | .call ⟨.builtin .copy,aa,ts⟩=>match aa.toList,ts.toList with
  | [x,y],[t,xt]=>match ty P t,s.ev x,s.ev y with
   | some ⟨.slice e,_,_,_⟩,some (.ar id ver _ off n),some hy=>match ty P e,hget s.heap id with
    | some Te,some (ver',.arr k' e' xs)=>ver'=ver∧isStr hy=false∧off+n*Te.size≤xs.length∧asrc P s xt Te.size hy fun m ds =>
      K (({ s with heap:=hset s.heap id ver (.arr k' e' (xs.take off++ds.take (min m n*Te.size)++xs.drop (off+min m n*Te.size))) }:AS).put o.dst (.int .i64 ((min m n:Nat):Int)))
    | _,_=>False
   | _,_,_=>False
  | _,_=>False
 | .call ⟨.value f,aa,_⟩=>match s.ev f,aa.toList.mapM s.ev with
  | some (.fn (.func g) fs cs),some hs=>ACall P g (fs++hs++cs) s.heap fun r H'=>K (({ s with heap:=H' }:AS).put o.dst r)
  | some (.yl id ver),some hs=>YCall P id ver hs s.heap fun r H'=>K (({ s with heap:=H' }:AS).put o.dst r)
  | _,_=>False
 | .build t ps=>abuild P s t ps.toList fun r=>K (s.put o.dst r)
 | .makeMap _ none=>∀ ver,K (({ s with heap:=hset s.heap (cid fid o.dst) ver (.map []) }:AS).put o.dst (.mp (cid fid o.dst) ver))
 | .mapUpdate t m x y=>match ty P t,s.ev m,s.ev x,s.ev y with
  | some ⟨.map kt _,_,_,_⟩,some (.mp id ver),some (.str k),some hv=>match ty P kt,hget s.heap id with
   | some ⟨.string,_,_,_⟩,some (ver',.map es)=>ver'=ver∧noIter id s.heap∧K (({ s with heap:=hset s.heap id ver (.map (mput k hv es)) }:AS).put o.dst (.v undef))
   | _,_=>False
  | _,_,_,_=>False
 | .insert t m x y=>match ty P t,s.ev m,s.ev x,s.ev y with
  | some ⟨.map kt _,_,_,_⟩,some (.mp id ver),some (.str k),some hv=>match ty P kt,hget s.heap id with
   | some ⟨.string,_,_,_⟩,some (ver',.map es)=>ver'=ver∧noIter id s.heap∧K (({ s with heap:=hset s.heap id ver (.map (mput k hv es)) }:AS).put o.dst (.v undef))
   | _,_=>False
  | _,_,_,_=>False
 | .lookup t m x false=>match ty P t,s.ev m,s.ev x with
  | some ⟨.map kt et,_,_,_⟩,some (.mp id ver),some (.str k)=>match ty P kt,ty P et,hget s.heap id with
   | some ⟨.string,_,_,_⟩,some Te,some (ver',.map es)=>match constHV Te.zero with
    | some z=>ver'=ver∧K (s.put o.dst ((alook k es).getD z))
    | none=>False
   | _,_,_=>False
  | _,_,_=>False
 | .range t m=>match ty P t,s.ev m with
  | some ⟨.map _ _,_,_,_⟩,some (.mp mid mver)=>match hget s.heap mid with
   | some (mver',.map _)=>mver'=mver∧cid fid o.dst≠mid∧∀ ver,K (({ s with heap:=hset s.heap (cid fid o.dst) ver (.iter mid mver [] false) }:AS).put o.dst (.it (cid fid o.dst) ver))
   | _=>False
  | _,_=>False
 | .next x false=>match s.ev x with
  | some (.it id ver)=>match hget s.heap id with
   | some (ver',.iter mid mver seen _)=>match hget s.heap mid with
    | some (mver',.map es)=>ver'=ver∧mver'=mver∧((∀ p∈es,p.1∈seen)→K (s.put o.dst (.tup [.bool false]))) ∧
      (∀ k v,(k,v)∈es→k ∉ seen→K (({ s with heap:=hset s.heap id ver (.iter mid mver (k::seen) true) }:AS).put o.dst (.tup [.bool true,.str k,v])))
    | _=>False
   | _=>False
  | _=>False
 | .entry x=>match s.ev x with
  | some (.it id ver)=>match hget s.heap id with
   | some (ver',.iter mid mver (k::_) true)=>match hget s.heap mid with
    | some (mver',.map es)=>ver'=ver∧mver'=mver∧∃ v,alook k es=some v∧K (s.put o.dst (.tup [.str k,v]))
    | _=>False
   | _=>False
  | _=>False
 | op=>aval P op s fun h=>K (s.put o.dst h)
theorem abase_det {s:AS} {k:Nat} {e:TypeId} {x:HV} {R:Nat→List HV→Prop} (h:abase s k e x R):∃ n cs,R n cs∧abase s k e x fun n' cs'=>n'=n∧cs'=cs:=by
 unfold abase at h ⊢;split at h
 ·exact ⟨_,_,h,rfl,rfl⟩
 ·split at h
  ·obtain ⟨h1,h2,h3,h4,h5,h6⟩:=h
   exact ⟨_,_,h6,h1,h2,h3,h4,h5,rfl,rfl⟩
  exact h.elim
 exact h.elim
theorem asrc_det {P:Program} {s:AS} {xt:TypeId} {k:Nat} {x:HV} {R:Nat→List HV→Prop} (h:asrc P s xt k x R):∃ n cs,R n cs∧asrc P s xt k x fun n' cs'=>n'=n∧cs'=cs:=by
 unfold asrc at h ⊢;split at h
 ·rename_i hT
  simp only [hT];obtain ⟨h1,h2⟩:=h;exact ⟨_,_,h2,h1,rfl,rfl⟩
 ·rename_i hT
  simp only [hT];split at h
  ·obtain ⟨h1,h2,h3,h4⟩:=h
   exact ⟨_,_,h4,h1,h2,h3,rfl,rfl⟩
  exact h.elim
 ·rename_i hT
  simp only [hT];exact ⟨_,_,h,rfl,rfl⟩
 ·rename_i hT
  simp only [hT];obtain ⟨h1,h2⟩:=h;exact ⟨_,_,h2,h1,rfl,rfl⟩
 exact h.elim
section
variable {P:Program} {ro:Option Nat} {N:Nat} {s:AS} {fid:Nat} {mt:List Nat}
theorem aop_sound {o:Oper} {K:AS→Prop} (hN:okd N o.dst=true) (h:aop P fid mt o K s):AOp P ro N o K s:=by
 unfold aop at h;split at h
 ·rename_i e x hop
  split at h
  ·rename_i hv hx
   split at h
   ·rename_i cs hcs
    split at h
    ·exact AOp.boxM _ hop hN hx hcs h
    exact AOp.box hop hN hx hcs h
   exact h.elim
  exact h.elim
 ·rename_i e hop
  split at h
  ·rename_i T hT
   split at h
   ·rename_i zs hz
    exact AOp.alloc _ hop hN hT hz h
   exact h.elim
  exact h.elim
 ·rename_i t x y hop
  split at h
  ·rename_i id ver off hv T hx hy hT
   split at h
   ·rename_i cs ver' k e xs hcs hg
    obtain ⟨rfl,h1,h2,h3⟩:=h;exact AOp.store hop hN hx hy hcs hg hT h1 h2 h3
   exact h.elim
  exact h.elim
 ·rename_i t n ps hop
  obtain ⟨hn,h⟩:=h;by_cases hm:(isMut mt o.dst || n == 0)=true
  ·simp only [hm,if_true] at h
   exact AOp.buildSliceM _ hop hN hn h
  simp only [hm,if_false,Bool.false_eq_true] at h;exact AOp.buildSlice hop hN hn h
 ·rename_i t x y hop
  split at h
  ·rename_i e sz by' z l c hT hx hy
   split at h
   ·rename_i Te hTe
    split at h
    ·rename_i zs hz
     obtain ⟨h1,h2,h3,h4,h5⟩:=h;exact AOp.makeSlice (k1:=.i64) (k2:=.i64) _ hop hN hT rfl hTe hz h1 hx hy h2 h3 h4 h5
    exact h.elim
   exact h.elim
  exact h.elim
 ·rename_i aa ts hop
  split at h
  ·rename_i x y t xt ha ht
   split at h
   ·rename_i e sz by' z hx hy hT hex hey
    split at h
    ·rename_i Te hTe
     obtain ⟨hz,h⟩:=h;obtain ⟨n,cs,h,hb⟩:=abase_det h;obtain ⟨m,ds,⟨h1,h2,h3⟩,hs⟩:=asrc_det h;have has:aa = #[x,y]:=Array.toList_inj.1 (by simpa using ha);have hts:ts = #[t,xt]:=Array.toList_inj.1 (by simpa using ht);subst has hts;exact AOp.append _ hop hN hT rfl hTe hz hex hey hb hs h1 h2 h3
    exact h.elim
   exact h.elim
  exact h.elim
 ·rename_i aa ts hop
  split at h
  ·rename_i x t ha ht
   split at h
   ·rename_i e sz by' z id ver k off n hT hx
    split at h
    ·rename_i Te ver' k' e' xs hTe hg
     split at h
     ·rename_i z' hz
      obtain ⟨rfl,h1,h2⟩:=h;have has:aa = #[x]:=Array.toList_inj.1 (by simpa using ha);have hts:ts = #[t]:=Array.toList_inj.1 (by simpa using ht);subst has hts;exact AOp.clear hop hN hT rfl hTe hz hx hg h1 h2
     exact h.elim
    exact h.elim
   exact h.elim
  exact h.elim
 ·rename_i aa ts hop
  split at h
  ·rename_i x y t xt ha ht
   split at h
   ·rename_i e sz by' z id ver k off n hy hT hex hey
    split at h
    ·rename_i Te ver' k' e' xs hTe hg
     obtain ⟨rfl,h1,h2,h⟩:=h;obtain ⟨m,ds,h,hs⟩:=asrc_det h;have has:aa = #[x,y]:=Array.toList_inj.1 (by simpa using ha);have hts:ts = #[t,xt]:=Array.toList_inj.1 (by simpa using ht);subst has hts;exact AOp.copy hop hN hT rfl hTe hex hey (fun l e=>by rw [e] at h1; cases h1) hg hs h2 h
    exact h.elim
   exact h.elim
  exact h.elim
 ·rename_i f aa ts hop
  split at h
  ·rename_i g fs cs hs hf ha
   exact AOp.call hop rfl hN hf ha h
  ·rename_i id ver hs hf ha
   exact AOp.yield hop rfl hN hf ha h
  exact h.elim
 ·rename_i t ps hop
  exact AOp.build hop hN h
 ·rename_i t hop
  exact AOp.makeMap _ hop hN h
 ·rename_i t m x y hop
  split at h
  ·rename_i kt et sz by' z id ver k hv hT hm hx hy
   split at h
   ·rename_i sz2 by2 z2 ver' es hTk hg
    obtain ⟨rfl,h1,h2⟩:=h;exact AOp.mapUpdate (.inl hop) hN hT rfl hTk rfl hm hx hy hg h1 h2
   exact h.elim
  exact h.elim
 ·rename_i t m x y hop
  split at h
  ·rename_i kt et sz by' z id ver k hv hT hm hx hy
   split at h
   ·rename_i sz2 by2 z2 ver' es hTk hg
    obtain ⟨rfl,h1,h2⟩:=h;exact AOp.mapUpdate (.inr hop) hN hT rfl hTk rfl hm hx hy hg h1 h2
   exact h.elim
  exact h.elim
 ·rename_i t m x hop
  split at h
  ·rename_i kt et sz by' z id ver k hT hm hx
   split at h
   ·rename_i sz2 by2 z2 Te ver' es hTk hTe hg
    split at h
    ·rename_i z3 hz
     obtain ⟨rfl,h2⟩:=h;exact AOp.lookup hop hN hT rfl hTk rfl hTe hz hm hx hg h2
    exact h.elim
   exact h.elim
  exact h.elim
 ·rename_i t m hop
  split at h
  ·rename_i kt et sz by' z mid mver hT hm
   split at h
   ·rename_i mver' es hg
    obtain ⟨rfl,h1,h2⟩:=h;exact AOp.range _ hop hN hT rfl hm hg h1 h2
   exact h.elim
  exact h.elim
 ·rename_i x hop
  split at h
  ·rename_i id ver hx
   split at h
   ·rename_i ver' mid mver seen cur hg
    split at h
    ·rename_i mver' es hgm
     obtain ⟨rfl,rfl,h1,h2⟩:=h;exact AOp.next hop hN hx hg hgm h1 h2
    exact h.elim
   exact h.elim
  exact h.elim
 ·rename_i x hop
  split at h
  ·rename_i id ver hx
   split at h
   ·rename_i ver' mid mver k seen hg
    split at h
    ·rename_i mver' es hgm
     obtain ⟨rfl,rfl,v,h1,h2⟩:=h;exact AOp.entry hop hN hx hg hgm h1 h2
    exact h.elim
   exact h.elim
  exact h.elim
 exact AOp.pure hN (by simpa using h)
def AOps (P:Program) (ro:Option Nat) (N:Nat) (ops:Array Oper) (is:List Nat) (K:AS→Prop) (s:AS):Prop :=
 ∀ (w0:World) (μ0 μ:Mu) (a:Act) (w:World) (Q:Exit→Act→World→Prop),SRel ro N w0.heap.size μ s a w→Evo w0 μ0 w μ →
  (∀ μ' s' a' w',K s'→SRel ro N w0.heap.size μ' s' a' w'→Evo w0 μ0 w' μ'→Q .normal a' w')→wpOpsIn (fence ro) 0 P ops Q is a w
theorem AOps.nil {ops:Array Oper} {K:AS→Prop} (h:K s):AOps P ro N ops [] K s:=fun _ _ _ _ _ _ hs hE hK=>hK _ _ _ _ h hs hE
theorem AOps.cons {ops:Array Oper} {K:AS→Prop} {i:Nat} {is:List Nat} {o:Oper} (ho:ops[i]?=some o) (hg:o.guard=none) (h:AOp P ro N o (AOps P ro N ops is K) s):AOps P ro N ops (i::is) K s:=by
 intro w0 μ0 μ a w Q hs hE hK;simp only [wpOpsIn,ho,Region.wanted,hg,if_true];exact h w0 μ0 μ a w _ _ hs hE fun μ' s' a' w' hk hs' hE'=>hk w0 μ0 μ' a' w' Q hs' hE' hK
theorem SRel.same {B:Nat} {μ:Mu} {a:Act} {w:World} (hs:SRel ro N B μ s a w) {d:Nat} {h:HV} (hd:sget s.slots d=some h):SRel ro N B μ (s.put (some d) h) a w :=
 ⟨hs.size,hs.sr,fun t hv ht=>by
  simp only [AS.put,sget_sset] at ht;split at ht
  ·rename_i e; subst e; cases ht; exact hs.slot _ _ hd
  exact hs.slot t hv ht,hs.marks,hs.ro⟩
theorem AOps.guard {ops:Array Oper} {K:AS→Prop} {i j d:Nat} {is:List Nat} {o oj:Oper} {want b:Bool} (ho:ops[i]?=some o) (hN:okd N o.dst=true) (hg:o.guard=some (j,want)) (hj:ops[j]?=some oj) (hd:oj.dst=some d)
  (hb:sget s.slots d=some (.bool b)) (h1:b=want→AOp P ro N o (AOps P ro N ops is K) (s.put (some d) (.bool want)))
  (h2:b = !want→AOps P ro N ops is K ((s.put (some d) (.bool !want)).put o.dst (.v undef))):AOps P ro N ops (i::is) K s:=by
 intro w0 μ0 μ a w Q hs hE hK;obtain ⟨hdN,hbv⟩:=hs.slot d _ hb
 have hy:yielded ops a.tmps j=some b:=by
  have hlt:d<a.tmps.size:=by rw [hs.size]; exact hdN
  have hv:a.tmps[d]?=some (.bool b):=by
   have hbv':a.tmps.getD d undef=.bool b:=hbv;rw [Array.getD_eq_getD_getElem?,Array.getElem?_eq_getElem hlt] at hbv';rw [Array.getElem?_eq_getElem hlt]
   simpa using hbv'
  simp [yielded,hj,hd,hv]
 simp only [wpOpsIn,ho,Region.wanted,hg,hy];by_cases hw:b=want
 ·subst hw
  simp only [beq_self_eq_true,if_true];exact h1 rfl w0 μ0 μ a w _ _ (hs.same hb) hE fun μ' s' a' w' hk hs' hE'=>hk w0 μ0 μ' a' w' Q hs' hE' hK
 have hbw:b = !want:=by cases b <;> cases want <;> simp_all
 have:(some b == some want)=false:=by simpa using hw
 simp only [this,Bool.false_eq_true,if_false];refine ⟨fun _ _=>trivial,?_⟩;rw [hbw] at hb;have hru:Rep w μ (.v undef) undef:=rfl;have hs2:=(hs.same hb).put (Evo.refl w μ) hs.sr hN hru;exact h2 hbw w0 μ0 μ _ w Q hs2 hE hK
def aops (P:Program) (fid:Nat) (mt:List Nat) (all:List Oper):List Oper→(AS→Prop)→AS→Prop
 | [],K,s=>K s
 | o :: rest,K,s=>match o.guard with
  | none=>aop P fid mt o (aops P fid mt all rest K) s
  | some (j,want)=>match all[j]? with
   | some oj=>match oj.dst with
    | some d=>match sget s.slots d with
     | some (.bool b)=>if b=want then aop P fid mt o (aops P fid mt all rest K) (s.put (some d) (.bool want))
       else aops P fid mt all rest K ((s.put (some d) (.bool !want)).put o.dst (.v undef))
     | _=>False
    | none=>False
   | none=>False
theorem aops_sound {ops:Array Oper} (hok:ops.toList.all (fun o=>okd N o.dst)=true) {K:AS→Prop}:∀ (l:List Oper) (i:Nat) (s:AS),(∀ k,l[k]?=ops[i+k]?)→aops P fid mt ops.toList l K s →
  AOps P ro N ops (List.range' i l.length) K s
 | [],i,s,_,h=>AOps.nil h
 | o :: l,i,s,hl,h=>by
  have ho:ops[i]?=some o:=by have:=hl 0; simpa using this.symm
  have hN:okd N o.dst=true:=List.all_eq_true.1 hok o (by
   have:=Array.getElem?_toList (xs:=ops) (i:=i);rw [ho] at this
   exact List.mem_of_getElem? this)
  have hl':∀ k,l[k]?=ops[i+1+k]?:=fun k=>by
   have:=hl (k+1);rw [List.getElem?_cons_succ] at this;rw [this]; congr 1; omega
  have ih:=fun s'=>aops_sound (K:=K) hok l (i+1) s';rw [List.length_cons,List.range'_succ];simp only [aops] at h;split at h
  ·rename_i hg
   have hop:=aop_sound (ro:=ro) hN h;refine AOps.cons ho hg ?_
   intro w0 μ0 μ a w next Q hs hE hK
   exact hop w0 μ0 μ a w next Q hs hE fun μ' s' a' w' hk hs' hE'=>hK μ' s' a' w' (ih s' hl' hk) hs' hE'
  rename_i j want hg
  split at h
  ·rename_i oj hoj
   split at h
   ·rename_i d hd
    split at h
    ·rename_i b hb
     refine AOps.guard ho hN hg (by simpa using hoj) hd hb (fun e=>?_) (fun e=>ih _ hl' (by rw [if_neg (by rw [e]; cases want <;> simp)] at h; exact h));have hop:=aop_sound (ro:=ro) hN (by rw [if_pos e] at h; exact h)
     intro w0 μ0 μ a w next Q hs hE hK
     exact hop w0 μ0 μ a w next Q hs hE fun μ' s' a' w' hk hs' hE'=>hK μ' s' a' w' (ih s' hl' hk) hs' hE'
    exact h.elim
   exact h.elim
  exact h.elim
theorem AW.region {id:Nat} {ops:Array Oper} {Q:Exit→AS→Prop} (ks:List Nat) (hok:ops.toList.all (fun o=>okd N o.dst)=true)
  (h:∀ K:AS→Prop,(∀ s',Q .normal s'→K s')→aops P fid mt ops.toList ops.toList (fun s'=>K (s'.keep ks)) s):AW P ro N (.region id ops false) Q s:=by
 intro w0 μ0 μ a w hs hE;have hso:=aops_sound (ro:=ro) hok ops.toList 0 s (fun k=>by simp) (h (fun s'=>Q .normal s') fun _ h=>h);refine wpIn_region ?_;rw [List.range_eq_range',← Array.length_toList];refine hso w0 μ0 μ a w _ hs hE fun μ' s' a' w' hk hs' hE'=>?_;exact ⟨(fun _ h=>by cases h),(fun h=>by cases h),_,_,hk,hs'.weaken (AS.le_keep s' ks),hE'.trans (Evo.cut w' μ' _)⟩
end
section
variable {P:Program} {ro:Option Nat} {N:Nat} {s s':AS} {fid:Nat} {mt:List Nat}
theorem mapM_congr' {α β:Type} {f g:α→Option β}:∀ {l:List α},(∀ x∈l,f x=g x)→l.mapM f=l.mapM g
 | [],_=>rfl
 | x::l,h=>by
  rw [List.mapM_cons,List.mapM_cons,h x (List.mem_cons_self ..),mapM_congr' fun y hy=>h y (List.mem_cons_of_mem _ hy)]
theorem asl_congr {lo:Option Operand} {d:Int} (h:∀ x,lo=some x→s'.ev x=s.ev x):asl s' lo d=asl s lo d:=by
 cases lo with
 | none=>rfl
 | some x=>simp only [asl,h x rfl]
theorem aval_congr {op:Op} {R:HV→Prop} (hh:s'.heap=s.heap) (he:∀ x∈op.operands,s'.ev x=s.ev x):aval P op s' R=aval P op s R:=by
 cases op with
 | move x=>simp only [aval,he x (by simp [Op.operands])]
 | assign x=>simp only [aval,he x (by simp [Op.operands])]
 | pick c a b=>simp only [aval,he c (by simp [Op.operands]),he a (by simp [Op.operands]),he b (by simp [Op.operands])]
 | load t x=>simp only [aval,he x (by simp [Op.operands]),hh]
 | nilCheck x=>simp only [aval,he x (by simp [Op.operands]),hh]
 | binOp op t x y u=>simp only [aval,he x (by simp [Op.operands]),he y (by simp [Op.operands])]
 | unOp op t x=>simp only [aval,he x (by simp [Op.operands])]
 | convert t u x=>simp only [aval,he x (by simp [Op.operands])]
 | makeFunc fn fs cs =>
  have h1:fs.toList.mapM s'.ev=fs.toList.mapM s.ev:=mapM_congr' fun x hx=>he x (by simp [Op.operands]; exact .inl (by simpa using hx));have h2:cs.toList.mapM s'.ev=cs.toList.mapM s.ev:=mapM_congr' fun x hx=>he x (by simp [Op.operands]; exact .inr (by simpa using hx));simp only [aval,h1,h2]
 | fieldAddr t x f=>simp only [aval,he x (by simp [Op.operands]),hh]
 | field t x f=>simp only [aval,he x (by simp [Op.operands])]
 | indexAddr t x i=>simp only [aval,he x (by simp [Op.operands]),he i (by simp [Op.operands]),hh]
 | index t x i=>simp only [aval,he x (by simp [Op.operands]),he i (by simp [Op.operands])]
 | extract x i=>simp only [aval,he x (by simp [Op.operands])]
 | slice t x lo hi mx =>
  cases mx with
  | some m=>rfl
  | none =>
   have h1:∀ d,asl s' lo d=asl s lo d:=fun d=>asl_congr fun x hx=>he x (by subst hx; simp [Op.operands]);have h2:∀ d,asl s' hi d=asl s hi d:=fun d=>asl_congr fun x hx=>he x (by subst hx; simp [Op.operands]);simp only [aval,he x (by simp [Op.operands]),h1,h2,hh]
 | call c =>
  have h1:∀ x∈c.args.toList,s'.ev x=s.ev x:=fun x hx=>he x (by simp only [Op.operands,Call.operands,Array.mem_append]; exact .inr (by simpa using hx));simp only [aval,hh];split
  ·rename_i t x _ _ ha
   rw [h1 x (by rw [ha]; simp)]
  ·rename_i b x y _ ha
   rw [h1 x (by rw [ha]; simp),h1 y (by rw [ha]; simp)]
  ·rename_i b x y z _ ha
   rw [h1 x (by rw [ha]; simp),h1 y (by rw [ha]; simp),h1 z (by rw [ha]; simp)]
  ·rename_i b x y z u _ ha
   rw [h1 x (by rw [ha]; simp),h1 y (by rw [ha]; simp),h1 z (by rw [ha]; simp),h1 u (by rw [ha]; simp)]
  ·rename_i b x y z u v _ ha
   rw [h1 x (by rw [ha]; simp),h1 y (by rw [ha]; simp),h1 z (by rw [ha]; simp),h1 u (by rw [ha]; simp),h1 v (by rw [ha]; simp)]
  rfl
 | _=>rfl
theorem loadK_det {T:TyI} {cs:List HV} {off:Nat} {R:HV→Prop} (h:loadK T cs off R):∃ hv,R hv∧loadK T cs off (· = hv):=by
 unfold loadK at h;split at h
 ·rename_i ha
  refine ⟨_,h.2,?_⟩;unfold loadK;rw [if_pos ha];exact ⟨h.1,rfl⟩
 rename_i ha
 split at h
 ·rename_i c hc
  refine ⟨_,h,?_⟩;unfold loadK;rw [if_neg ha,hc]
 exact h.elim
theorem abin_det {op:BinOp} {x y:HV} {R:HV→Prop} (h:abin op x y R):∃ hv,R hv∧abin op x y (· = hv):=by
 unfold abin at h ⊢
 split at h <;> first
  | exact h.elim
  | exact ⟨_,h.2.2,h.1,h.2.1,rfl⟩
  | exact ⟨_,h.2,h.1,rfl⟩
  | exact ⟨_,h,rfl⟩
theorem abinT_det {op:BinOp} {tx:TypeId} {x y:HV} {R:HV→Prop} (h:abinT P op tx x y R):∃ hv,R hv∧abinT P op tx x y (· = hv):=by
 unfold abinT at h ⊢;split at h
 ·split at h
  ·rename_i hT; simp only [hT]; exact ⟨_,h,rfl⟩
  ·rename_i hT; simp only [hT]; exact ⟨_,h,rfl⟩
  exact h.elim
 ·split at h
  ·rename_i h1 h2
   simp only [h1,h2];obtain ⟨hc,b,hb,h⟩:=h;split at h
   ·exact ⟨_,h,hc,b,hb,rfl⟩
   ·exact ⟨_,h,hc,b,hb,rfl⟩
   exact h.elim
  exact h.elim
 exact abin_det h
theorem aval_det {op:Op} {R:HV→Prop} (h:aval P op s R):∃ hv,R hv∧aval P op s (· = hv):=by
 unfold aval at h ⊢;split at h
 ·split at h
  ·exact ⟨_,h,rfl⟩
  exact h.elim
 ·split at h
  ·exact ⟨_,h,rfl⟩
  exact h.elim
 ·split at h
  ·exact ⟨_,h,rfl⟩
  ·exact ⟨_,h,rfl⟩
  ·exact ⟨_,h,rfl⟩
  exact h.elim
 ·split at h
  ·exact loadK_det h
  ·split at h
   ·obtain ⟨h1,h2⟩:=h
    obtain ⟨hv,h3,h4⟩:=loadK_det h2;exact ⟨hv,h3,h1,h4⟩
   exact h.elim
  exact h.elim
 ·split at h
  ·split at h
   ·exact ⟨_,h.2,h.1,rfl⟩
   exact h.elim
  ·exact ⟨_,h,rfl⟩
  exact h.elim
 ·split at h
  ·exact abinT_det h
  exact h.elim
 ·split at h
  ·exact ⟨_,h,rfl⟩
  ·exact ⟨_,h,rfl⟩
  exact h.elim
 ·split at h
  ·exact ⟨_,h,rfl⟩
  ·exact ⟨_,h,rfl⟩
  ·exact ⟨_,h,rfl⟩
  ·split at h
   ·obtain ⟨h1,h⟩:=h
    split at h
    ·exact ⟨_,h,h1,rfl⟩
    exact h.elim
   exact h.elim
  ·split at h
   ·exact ⟨_,h,rfl⟩
   exact h.elim
  exact h.elim
 ·split at h
  ·exact ⟨_,h,rfl⟩
  exact h.elim
 ·split at h
  ·exact ⟨_,h.2,h.1,rfl⟩
  ·exact ⟨_,h,rfl⟩
  exact h.elim
 ·split at h
  ·exact loadK_det h
  exact h.elim
 ·split at h
  ·exact ⟨_,h.2.2.2,h.1,h.2.1,h.2.2.1,rfl⟩
  ·exact ⟨_,h.2.2.2.2,h.1,h.2.1,h.2.2.1,h.2.2.2.1,rfl⟩
  ·exact ⟨_,h.2.2.2,h.1,h.2.1,h.2.2.1,rfl⟩
  ·exact ⟨_,h.2.2,h.1,h.2.1,rfl⟩
  exact h.elim
 ·split at h
  ·obtain ⟨h0,h⟩:=h
   split at h
   ·exact ⟨_,h,h0,rfl⟩
   exact h.elim
  ·obtain ⟨h0,h1,h⟩:=h
   split at h
   ·obtain ⟨hv,h3,h4⟩:=loadK_det h
    exact ⟨hv,h3,h0,h1,h4⟩
   exact h.elim
  exact h.elim
 ·split at h
  ·split at h
   ·exact ⟨_,h,rfl⟩
   exact h.elim
  exact h.elim
 ·split at h
  ·split at h
   ·exact ⟨_,h.2.2.2,h.1,h.2.1,h.2.2.1,rfl⟩
   exact h.elim
  ·split at h
   ·exact ⟨_,h.2.2.2.2,h.1,h.2.1,h.2.2.1,h.2.2.2.1,rfl⟩
   exact h.elim
  ·split at h
   ·exact ⟨_,h.2.2.2.2.2.2,h.1,h.2.1,h.2.2.1,h.2.2.2.1,h.2.2.2.2.1,h.2.2.2.2.2.1,rfl⟩
   exact h.elim
  exact h.elim
 ·split at h
  ·split at h
   ·exact ⟨_,h,rfl⟩
   ·exact ⟨_,h,rfl⟩
   ·exact ⟨_,h.2,h.1,rfl⟩
   ·exact ⟨_,h,rfl⟩
   ·exact ⟨_,h,rfl⟩
   ·split at h
    ·exact ⟨_,h.2.2,h.1,h.2.1,rfl⟩
    exact h.elim
   exact h.elim
  ·split at h
   ·exact ⟨_,h.2.2,h.1,h.2.1,rfl⟩
   exact h.elim
  ·split at h
   ·exact ⟨_,h.2.2.2,h.1,h.2.1,h.2.2.1,rfl⟩
   exact h.elim
  ·split at h
   ·exact ⟨_,h.2.2.2.2,h.1,h.2.1,h.2.2.1,h.2.2.2.1,rfl⟩
   exact h.elim
  ·split at h
   ·exact ⟨_,h.2.2.2.2.2,h.1,h.2.1,h.2.2.1,h.2.2.2.1,h.2.2.2.2.1,rfl⟩
   exact h.elim
  exact h.elim
 exact h.elim
def AS.eqv (s s':AS):Prop:=s'.heap=s.heap∧∀ t,sget s'.slots t=sget s.slots t
theorem AS.eqv.refl (s:AS):s.eqv s:=⟨rfl,fun _=>rfl⟩
theorem AS.eqv.symm (h:s.eqv s'):s'.eqv s:=⟨h.1.symm,fun t=>(h.2 t).symm⟩
theorem AS.eqv.trans {s2:AS} (h:s.eqv s') (h':s'.eqv s2):s.eqv s2:=⟨h'.1.trans h.1,fun t=>(h'.2 t).trans (h.2 t)⟩
theorem SRel.eqv {B:Nat} {μ:Mu} {a:Act} {w:World} (hs:SRel ro N B μ s a w) (h:s.eqv s'):SRel ro N B μ s' a w :=
 ⟨hs.size,h.1 ▸ hs.sr,fun t hv ht=>hs.slot t hv (by rw [← h.2]; exact ht),hs.marks,hs.ro⟩
theorem sget_put (s:AS) (d:Option Tmp) (h:HV) (t:Nat):sget (s.put d h).slots t=if d=some t then some h else sget s.slots t:=by
 cases d with
 | none=>simp [AS.put]
 | some x =>
  simp only [AS.put,sget_sset,Option.some.injEq];by_cases e:t=x
  ·simp [e]
  rw [if_neg e,if_neg (fun e'=>e e'.symm)]
theorem put_heap (s:AS) (d:Option Tmp) (h:HV):(s.put d h).heap=s.heap:=by cases d <;> rfl
theorem AS.eqv.put (h:s.eqv s') (d:Option Tmp) (v:HV):(s.put d v).eqv (s'.put d v) :=
 ⟨by rw [put_heap,put_heap,h.1],fun t=>by rw [sget_put,sget_put,h.2]⟩
def AOpI (P:Program) (ro:Option Nat) (N:Nat) (ops:Array Oper) (i:Nat) (K:AS→Prop) (s:AS):Prop :=
 ∀ (w0:World) (μ0 μ:Mu) (a:Act) (w:World) (next:Act→World→Prop) (Q:Exit→Act→World→Prop),SRel ro N w0.heap.size μ s a w→Evo w0 μ0 w μ →
  (∀ μ' s' a' w',K s'→SRel ro N w0.heap.size μ' s' a' w'→Evo w0 μ0 w' μ'→next a' w')→wpOpIn (fence ro) 0 P ops Q i next a w
theorem AOpI.plain {ops:Array Oper} {K:AS→Prop} {i:Nat} {o:Oper} (ho:ops[i]?=some o) (hg:o.guard=none) (h:AOp P ro N o K s):AOpI P ro N ops i K s:=by
 intro w0 μ0 μ a w next Q hs hE hK
 simp only [wpOpIn,ho,Region.wanted,hg,if_true];exact h w0 μ0 μ a w _ _ hs hE hK
theorem AOpI.guard {ops:Array Oper} {K:AS→Prop} {i j d:Nat} {o oj:Oper} {want b:Bool} (ho:ops[i]?=some o) (hN:okd N o.dst=true) (hg:o.guard=some (j,want)) (hj:ops[j]?=some oj) (hd:oj.dst=some d)
  (hb:sget s.slots d=some (.bool b)) (h1:b=want→AOp P ro N o K s) (h2:b = !want→K (s.put o.dst (.v undef))):AOpI P ro N ops i K s:=by
 intro w0 μ0 μ a w next Q hs hE hK
 obtain ⟨hdN,hbv⟩:=hs.slot d _ hb
 have hy:yielded ops a.tmps j=some b:=by
  have hlt:d<a.tmps.size:=by rw [hs.size]; exact hdN
  have hv:a.tmps[d]?=some (.bool b):=by
   have hbv':a.tmps.getD d undef=.bool b:=hbv;rw [Array.getD_eq_getD_getElem?,Array.getElem?_eq_getElem hlt] at hbv';rw [Array.getElem?_eq_getElem hlt]
   simpa using hbv'
  simp [yielded,hj,hd,hv]
 simp only [wpOpIn,ho,Region.wanted,hg,hy];by_cases hw:b=want
 ·subst hw
  simp only [beq_self_eq_true,if_true];exact h1 rfl w0 μ0 μ a w _ _ hs hE hK
 have hbw:b = !want:=by cases b <;> cases want <;> simp_all
 have:(some b == some want)=false:=by simpa using hw
 simp only [this,Bool.false_eq_true,if_false];refine ⟨fun _ _=>trivial,?_⟩;have hru:Rep w μ (.v undef) undef:=rfl;exact hK μ _ _ w (h2 hbw) (hs.put (Evo.refl w μ) hs.sr hN hru) hE
theorem AOpI.guardU {ops:Array Oper} {K:AS→Prop} {i j d:Nat} {o oj:Oper} {want:Bool} (ho:ops[i]?=some o) (hN:okd N o.dst=true) (hg:o.guard=some (j,want)) (hj:ops[j]?=some oj) (hd:oj.dst=some d)
  (hb:sget s.slots d=some (.v undef)) (h2:K (s.put o.dst (.v undef))):AOpI P ro N ops i K s:=by
 intro w0 μ0 μ a w next Q hs hE hK
 obtain ⟨hdN,hbv⟩:=hs.slot d _ hb
 have hy:yielded ops a.tmps j=none:=by
  have hlt:d<a.tmps.size:=by rw [hs.size]; exact hdN
  have hv:a.tmps[d]?=some undef:=by
   have hbv':a.tmps.getD d undef=undef:=hbv;rw [Array.getD_eq_getD_getElem?,Array.getElem?_eq_getElem hlt] at hbv';rw [Array.getElem?_eq_getElem hlt]
   simpa using hbv'
  simp [yielded,hj,hd,hv,undef]
 simp only [wpOpIn,ho,Region.wanted,hg,hy];have:((none:Option Bool) == some want)=false:=rfl;simp only [this,Bool.false_eq_true,if_false];refine ⟨fun _ _=>trivial,?_⟩;have hru:Rep w μ (.v undef) undef:=rfl;exact hK μ _ _ w h2 (hs.put (Evo.refl w μ) hs.sr hN hru) hE
def PureAt (P:Program) (ro:Option Nat) (N:Nat) (ops:Array Oper) (i:Nat) (o:Oper) (hv:HV) (S:AS):Prop :=
 ∀ s2:AS,s2.heap=S.heap→(∀ t∈o.looksAt ops,sget s2.slots t=sget S.slots t)→∀ K:AS→Prop,K (s2.put o.dst hv)→AOpI P ro N ops i K s2
theorem ev_looks {ops:Array Oper} {o:Oper} (h:∀ t∈o.looksAt ops,sget s'.slots t=sget s.slots t):∀ x∈o.op.operands,s'.ev x=s.ev x:=by
 intro x hx
 cases x with
 | tmp t =>
  refine h t ?_;simp only [Oper.looksAt,List.mem_append,List.mem_filterMap];exact .inl ⟨.tmp t,by simpa using hx,rfl⟩
 | _=>rfl
def ACallD (P:Program) (g:FuncId) (args:List HV) (H:Heap) (hv:HV):Prop:=ACall P g args H fun r H'=>r=hv∧H'=H
def SteadyOp (P:Program) (o:Oper) (R:HV→Prop) (s:AS):Prop :=
 ∃ hv,R hv∧∀ (ro:Option Nat) (N:Nat) (s2:AS),okd N o.dst=true→s2.heap=s.heap→(∀ x∈o.op.operands,s2.ev x=s.ev x)→∀ K:AS→Prop,K (s2.put o.dst hv)→AOp P ro N o K s2
def aopS (P:Program) (o:Oper) (R:HV→Prop) (s:AS):Prop :=
 match o.op with
 | .box _ x=>match s.ev x with
  | some hv=>match hv.cells? with
   | some cs=>R (.fptr cs 0)
   | none=>False
  | none=>False
 | .buildSlice t n ps=>n≤16777216∧aslice P s t n ps.toList fun k _ cs=>R (.sl k n cs)
 | .build t ps=>abuild P s t ps.toList R
 | .call ⟨.value f,aa,_⟩=>match s.ev f,aa.toList.mapM s.ev with
  | some (.fn (.func g) fs cs),some hs=>∃ hv,ACallD P g (fs++hs++cs) s.heap hv∧R hv
  | _,_=>False
 | .lookup _ _ _ _=>SteadyOp P o R s
 | op=>aval P op s R
theorem aslice_congr {t:TypeId} {n:Nat} {ps:List (Nat × Operand)} {R:Nat→TypeId→List HV→Prop} (he:∀ p∈ps,s'.ev p.2=s.ev p.2):aslice P s' t n ps R=aslice P s t n ps R:=by
 have:aparts s' ps=aparts s ps:=mapM_congr' fun p hp=>by rw [he p hp]
 simp only [aslice,this]
theorem aslice_det {t:TypeId} {n:Nat} {ps:List (Nat × Operand)} {R:Nat→TypeId→List HV→Prop} (h:aslice P s t n ps R) :
  ∃ k e cs,R k e cs∧aslice P s t n ps fun k' e' cs'=>k'=k∧e'=e∧cs'=cs:=by
 unfold aslice at h;split at h
 ·rename_i hT
  split at h
  ·rename_i hTe
   split at h
   ·rename_i hz hq
    obtain ⟨h1,h2,h⟩:=h;split at h
    ·rename_i hf
     refine ⟨_,_,_,h,?_⟩;unfold aslice;simp only [hT,hTe,hz,hq,hf];refine ⟨h1,h2,?_⟩
     first | exact ⟨rfl,rfl,rfl⟩ | exact ⟨trivial,trivial,trivial⟩ | trivial
    exact h.elim
   exact h.elim
  exact h.elim
 exact h.elim
theorem abuild_congr {t:TypeId} {ps:List (Nat × Operand)} {R:HV→Prop} (he:∀ p∈ps,s'.ev p.2=s.ev p.2):abuild P s' t ps R=abuild P s t ps R:=by
 have:aparts s' ps=aparts s ps:=mapM_congr' fun p hp=>by rw [he p hp]
 simp only [abuild,this]
theorem abuild_det {t:TypeId} {ps:List (Nat × Operand)} {R:HV→Prop} (h:abuild P s t ps R):∃ cs,R (.agg cs)∧∀ R':HV→Prop,R' (.agg cs)→abuild P s t ps R':=by
 unfold abuild at h;split at h
 ·rename_i hT
  split at h
  ·rename_i hp hz hq
   split at h
   ·rename_i cs hf
    refine ⟨cs,h,fun R' hR'=>?_⟩;unfold abuild;simp only [hT,hp,hz,hq,hf];exact hR'
   exact h.elim
  exact h.elim
 ·rename_i hT
  split at h
  ·rename_i hE hz hq
   split at h
   ·rename_i cs hf
    refine ⟨cs,h,fun R' hR'=>?_⟩;unfold abuild;simp only [hT,hE,hz,hq,hf];exact hR'
   exact h.elim
  exact h.elim
 exact h.elim
theorem aopS_pure {ops:Array Oper} {o:Oper} {R:HV→Prop} (hN:okd N o.dst=true) (h:aopS P o R s) :
  ∃ hv,R hv∧∀ s2:AS,s2.heap=s.heap→(∀ t∈o.looksAt ops,sget s2.slots t=sget s.slots t)→∀ K:AS→Prop,K (s2.put o.dst hv)→AOp P ro N o K s2:=by
 unfold aopS at h;split at h
 ·rename_i e x hop
  split at h
  ·rename_i hv hx
   split at h
   ·rename_i cs hcs
    refine ⟨_,h,fun s2 _ hl K hK=>AOp.box hop hN ?_ hcs hK⟩;rw [ev_looks hl x (by rw [hop]; simp [Op.operands])]; exact hx
   exact h.elim
  exact h.elim
 ·rename_i t n ps hop
  obtain ⟨hn,h⟩:=h;obtain ⟨k,e,cs,hR,hd⟩:=aslice_det h;refine ⟨_,hR,fun s2 _ hl K hK=>AOp.buildSlice hop hN hn ?_⟩
  rw [aslice_congr (s:=s) (fun p hp=>ev_looks hl p.2 (by
   rw [hop];simp only [Op.operands,List.mem_toArray,List.mem_map]
   exact ⟨p,hp,rfl⟩))]
  have mono:∀ {R R':Nat→TypeId→List HV→Prop},(∀ k e cs,R k e cs→R' k e cs)→aslice P s t n ps.toList R→aslice P s t n ps.toList R':=by
   intro R R' hr h;unfold aslice at h ⊢;split at h
   ·split at h
    ·split at h
     ·obtain ⟨h1,h2,h⟩:=h
      refine ⟨h1,h2,?_⟩;split at h
      ·exact hr _ _ _ h
      exact h.elim
     exact h.elim
    exact h.elim
   exact h.elim
  refine mono ?_ hd
  rintro k' e' cs' ⟨rfl,rfl,rfl⟩
  exact hK
 ·rename_i t ps hop
  obtain ⟨cs,hR,hd⟩:=abuild_det h;refine ⟨_,hR,fun s2 _ hl K hK=>AOp.build hop hN ?_⟩
  rw [abuild_congr (s:=s) (fun p hp=>ev_looks hl p.2 (by
   rw [hop];simp only [Op.operands,List.mem_toArray,List.mem_map]
   exact ⟨p,hp,rfl⟩))]
  exact hd _ hK
 ·rename_i f aa ts hop
  split at h
  ·rename_i g fs cs hs hf ha
   obtain ⟨hv,hc,hR⟩:=h;refine ⟨hv,hR,fun s2 hh hl K hK=>?_⟩;have he:=ev_looks hl
   refine AOp.call hop rfl hN (by rw [he f (by rw [hop]; simp [Op.operands,Call.operands])]; exact hf)
    (hs:=hs) (by rw [mapM_congr' fun x hx=>he x (by rw [hop]; simp only [Op.operands,Call.operands,Array.mem_append]; exact .inr (by simpa using hx))]; exact ha) ?_
   rw [hh];refine ACall.mono hc ?_
   rintro r H' ⟨rfl,rfl⟩
   have:({ s2 with heap:=s.heap }:AS)=s2:=by rw [← hh]
   rw [this];exact hK
  exact h.elim
 ·obtain ⟨hv,hR,hd⟩:=h
  exact ⟨hv,hR,fun s2 hh hl K hK=>hd ro N s2 hN hh (ev_looks hl) K hK⟩
 obtain ⟨hv,hR,hd⟩:=aval_det h;refine ⟨hv,hR,fun s2 hh hl K hK=>?_⟩
 have hd':aval P o.op s2 (· = hv):=by rw [aval_congr (s:=s) hh (ev_looks hl)]; simpa using hd
 refine AOp.value (fun c e=>by rw [e] at hd'; exact hd') hN fun B μ a w hs=>?_;obtain ⟨v,hv',h1,rfl,h3⟩:=aval_sound hs o hd';exact ⟨v,_,μ,w,s2.heap,h1,hs.sr,Evo.refl w μ,h3,hK⟩
def asteps (P:Program) (all:List Oper):List Oper→(AS→Prop)→AS→Prop
 | [],K,s=>K s
 | o :: rest,K,s=>match o.guard with
  | none=>aopS P o (fun h=>asteps P all rest K (s.put o.dst h)) s
  | some (j,want)=>match all[j]? with
   | some oj=>match oj.dst with
    | some d=>match sget s.slots d with
     | some (.bool b)=>if b=want then aopS P o (fun h=>asteps P all rest K ((s.put (some d) (.bool want)).put o.dst h)) (s.put (some d) (.bool want))
       else asteps P all rest K ((s.put (some d) (.bool !want)).put o.dst (.v undef))
     | some (.v x)=>x=undef∧asteps P all rest K (s.put o.dst (.v undef))
     | _=>False
    | none=>False
   | none=>False
theorem eqv_same {d : Nat} {h:HV} (hd:sget s.slots d=some h):s.eqv (s.put (some d) h) :=
  ⟨rfl, fun t => by rw [sget_put]; split <;> rename_i e; · cases e; exact hd.symm
                    rfl⟩
theorem asteps_plan {ops:Array Oper} (hok:ops.toList.all (fun o=>okd N o.dst)=true) {K:AS→Prop}:∀ (l:List Oper) (i:Nat) (s:AS),(∀ k,k<l.length→l[k]?=ops[i+k]?)→asteps P ops.toList l K s →
  ∃ (plan:Nat→HV) (St:Nat→AS),s.eqv (St i)∧K (St (i+l.length))∧∀ k,k<l.length→∃ o,ops[i+k]?=some o∧PureAt P ro N ops (i+k) o (plan (i+k)) (St (i+k))∧((St (i+k)).put o.dst (plan (i+k))).eqv (St (i+k+1))
 | [],i,s,_,h=>⟨fun _=>.v undef,fun _=>s,AS.eqv.refl s,h,fun k hk=>by simp at hk⟩
 | o :: l,i,s,hl,h=>by
  have ho:ops[i]?=some o:=by have:=hl 0 (by simp); simpa using this.symm
  have hN:okd N o.dst=true:=List.all_eq_true.1 hok o (by
   have:=Array.getElem?_toList (xs:=ops) (i:=i);rw [ho] at this
   exact List.mem_of_getElem? this)
  have hl':∀ k,k<l.length→l[k]?=ops[i+1+k]?:=fun k hk=>by
   have:=hl (k+1) (by simpa using hk);rw [List.getElem?_cons_succ] at this;rw [this]; congr 1; omega
  have ih:=fun s'=>asteps_plan (K:=K) hok l (i+1) s'
  -- from the value at i and the rest to the whole
  have key:∀ (s1:AS) (hv:HV),s.eqv s1→PureAt P ro N ops i o hv s1→asteps P ops.toList l K (s1.put o.dst hv) →
    ∃ (plan:Nat→HV) (St:Nat→AS),s.eqv (St i)∧K (St (i+(o::l).length))∧∀ k,k<(o::l).length→∃ o,ops[i+k]?=some o∧PureAt P ro N ops (i+k) o (plan (i+k)) (St (i+k)) ∧
     ((St (i+k)).put o.dst (plan (i+k))).eqv (St (i+k+1)):=by
   intro s1 hv hs1 hp hrest;obtain ⟨plan,St,h1,h2,h3⟩:=ih _ hl' hrest;refine ⟨fun j=>if j=i then hv else plan j,fun j=>if j=i then s1 else St j,by simp [hs1],?_,fun k hk=>?_⟩
   ·have:i+(o::l).length≠i:=by simp
    simp only [this,if_false]
    have e:i+(o::l).length=i+1+l.length:=by simp; omega
    rw [e]; exact h2
   cases k with
   | zero =>
    refine ⟨o,ho,by simpa using hp,?_⟩;simp only [Nat.add_zero,if_true];rw [if_neg (by omega)];exact h1
   | succ k =>
    obtain ⟨o',h4,h5,h6⟩:=h3 k (by simpa using hk)
    have e:i+(k+1)=i+1+k:=by omega
    have hne:i+1+k≠i:=by omega
    have hne':i+1+k+1≠i:=by omega
    refine ⟨o',by rw [e]; exact h4,?_,?_⟩
    ·rw [e]; simp only [hne,if_false]; exact h5
    rw [e]; simp only [hne,hne',if_false]; exact h6
  simp only [asteps] at h;split at h
  ·rename_i hg
   obtain ⟨hv,hR,hp⟩:=aopS_pure (ro:=ro) (ops:=ops) hN h;exact key s hv (AS.eqv.refl s) (fun s2 hh hl K hK=>AOpI.plain ho hg (hp s2 hh hl K hK)) hR
  rename_i j want hg
  split at h
  ·rename_i oj hoj
   split at h
   ·rename_i d hd
    split at h
    ·rename_i b hb
     have hojA:ops[j]?=some oj:=by simpa using hoj
     have hdl:d∈o.looksAt ops:=by
      simp only [Oper.looksAt,hg,List.mem_append];right;simp [hojA,hd]
     by_cases hw:b=want
     ·subst hw
      have h1:=h;rw [if_pos rfl] at h1;obtain ⟨hv,hR,hp⟩:=aopS_pure (ro:=ro) (ops:=ops) hN h1;have he:=eqv_same hb;refine key (s.put (some d) (.bool b)) hv he (fun s2 hh hl K hK=>?_) hR
      have hb2:sget s2.slots d=some (.bool b):=by rw [hl d hdl,he.2]; exact hb
      exact AOpI.guard ho hN hg hojA hd hb2 (fun _=>hp s2 hh hl K hK) (fun e=>by cases b <;> simp at e)
     have hbw:b = !want:=by cases b <;> cases want <;> simp_all
     have h1:=h;rw [if_neg hw] at h1;subst hbw;have he:=eqv_same hb;refine key (s.put (some d) (.bool !want)) (.v undef) he (fun s2 hh hl K hK=>?_) h1
     have hb2:sget s2.slots d=some (.bool !want):=by rw [hl d hdl,he.2]; exact hb
     exact AOpI.guard ho hN hg hojA hd hb2 (fun e=>by cases want <;> simp at e) (fun _=>hK)
    ·rename_i x hb
     obtain ⟨hx,h1⟩:=h;subst hx
     have hojA:ops[j]?=some oj:=by simpa using hoj
     have hdl:d∈o.looksAt ops:=by
      simp only [Oper.looksAt,hg,List.mem_append];right;simp [hojA,hd]
     refine key s (.v undef) (AS.eqv.refl s) (fun s2 hh hl K hK=>?_) h1
     have hb2:sget s2.slots d=some (.v undef):=by rw [hl d hdl]; exact hb
     exact AOpI.guardU ho hN hg hojA hd hb2 hK
    exact h.elim
   exact h.elim
  exact h.elim
def da (ops:Array Oper) (i:Nat):List Nat:=match ops[i]? with
 | some o=>(o.after.toList.filter fun e=>Region.binds .any e).map (·.on)
 | none=>[]
def clos (ops:Array Oper) (i:Nat):List Nat:=(List.range i).foldr (fun k acc=>if acc.contains k then da ops k++acc else acc) (da ops i)
theorem clos_ind {ops:Array Oper} {i:Nat} (R:Nat→Prop) (h0:∀ k∈da ops i,R k) (hs:∀ k,k<i→R k→∀ m∈da ops k,R m):∀ k∈clos ops i,R k:=by
 have key:∀ (l:List Nat),(∀ k∈l,k<i)→∀ k∈l.foldr (fun k acc=>if acc.contains k then da ops k++acc else acc) (da ops i),R k:=by
  intro l
  induction l with
  | nil=>exact fun _ k hk=>h0 k hk
  | cons x l ih =>
   intro hl k hk;have ih':=ih fun y hy=>hl y (List.mem_cons_of_mem _ hy);simp only [List.foldr_cons] at hk;split at hk
   ·rename_i hc
    rcases List.mem_append.1 hk with h | h
    ·exact hs x (hl x (List.mem_cons_self ..)) (ih' x (by simpa using hc)) k h
    exact ih' k h
   exact ih' k hk
 exact key (List.range i) fun k hk=>List.mem_range.1 hk
def dstOf (ops:Array Oper) (i:Nat):Option Tmp:=(ops[i]?).bind (·.dst)
def drawOk (ops:Array Oper) (p:Nat):Bool :=
 decide (p≤ops.size) &&
 ((List.range p).all fun i=>(List.range p).all fun k=>i == k || (match dstOf ops i with
  | some d=>dstOf ops k != some d
  | none=>true)) &&
 ((List.range p).all fun i=>(List.range p).all fun k=>match dstOf ops k,ops[i]? with
  | some d,some o=>!(o.looksAt ops).contains d || (if k<i then (da ops i).contains k else k == i || (da ops k).contains i)
  | _,_=>true) &&
 ((List.range ops.size).all fun i=>decide (i<p) || ((List.range i).all fun k=>(clos ops i).contains k)) &&
 ((List.range ops.size).all fun i=>(da ops i).all fun k=>decide (k<i))
theorem count_set:∀ (l:List Bool) (i:Nat),l[i]?=some false→(l.set i true).count false+1=l.count false
 | [],i,h=>by simp at h
 | b::l,0,h=>by simp at h; subst h; simp
 | b::l,i+1,h=>by
  simp only [List.getElem?_cons_succ] at h;have:=count_set l i h
  cases b <;> simp [List.set_cons_succ] <;> omega
def cnt (listed:Array Bool):Nat:=listed.toList.count false
theorem cnt_set {listed:Array Bool} {i:Nat} (h:listed.getD i true=false):cnt (listed.setIfInBounds i true)+1=cnt listed:=by
 have h':listed.toList[i]?=some false:=by
  rw [Array.getD_eq_getD_getElem?] at h;rw [Array.getElem?_toList]
  cases hh:listed[i]? with
  | none=>rw [hh] at h; simp at h
  | some b=>rw [hh] at h; simp at h; rw [h]
 unfold cnt;rw [Array.toList_setIfInBounds];exact count_set _ _ h'
theorem cnt_pos {listed:Array Bool} {i:Nat} (h:listed.getD i true=false):0<cnt listed:=by have:=cnt_set h; omega
theorem any_tail {F:Fence} {n:Nat} {ops:Array Oper} {Q:Exit→Act→World→Prop} (hda:∀ i,i<ops.size→∀ k∈da ops i,k<i) :
  ∀ (fuel j:Nat) (listed:Array Bool) (a:Act) (w:World),j≤ops.size→ops.size - j≤fuel→(∀ i,j≤i→i<ops.size→∀ k,k<i→k∈clos ops i) →
   (∀ i,i<ops.size→listed.getD i true=decide (i<j))→(∀ i,i<ops.size→listed.getD i false=decide (i<j)) →
   wpOpsIn F n P ops Q (List.range' j (ops.size - j)) a w→wpAnyIn F n P .any ops Q fuel listed a w:=by
 intro fuel
 induction fuel with
 | zero =>
  intro j listed a w hj hf hchain h1 h2 h
  have hjn:j=ops.size:=by omega
  subst hjn;rw [Nat.sub_self] at h;refine ⟨?_,h⟩
  cases hr:Region.ready .any ops listed with
  | nil=>rfl
  | cons x xs =>
   have hx:x∈Region.ready .any ops listed:=by rw [hr]; exact List.mem_cons_self ..
   obtain ⟨h0,o,ho,_⟩:=mem_ready.1 hx;have hlt:=(Array.getElem?_eq_some_iff.1 ho).1;rw [h1 x hlt] at h0;simp [hlt] at h0
 | succ fuel ih =>
  intro j listed a w hj hf hchain h1 h2 h;refine ⟨fun hr=>?_,fun i hi=>?_⟩
  ·by_cases hjn:j=ops.size
   ·subst hjn
    rw [Nat.sub_self] at h;exact h
   exfalso
   have hjl:j<ops.size:=by omega
   have:j∈Region.ready .any ops listed:=by
    refine mem_ready.2 ⟨by rw [h1 j hjl]; simp,ops[j],by simp [hjl],fun e he hb=>?_⟩
    have hk:e.on∈da ops j:=by
     simp only [da,Array.getElem?_eq_getElem hjl,List.mem_map,List.mem_filter];exact ⟨e,⟨by simpa using he,hb⟩,rfl⟩
    have hlt:=hda j hjl _ hk;rw [h2 _ (by omega)];simp [hlt]
   rw [hr] at this;cases this
  obtain ⟨h0,o,ho,hall⟩:=mem_ready.1 hi;have hil:=(Array.getElem?_eq_some_iff.1 ho).1;rw [h1 i hil] at h0
  have hji:j≤i:=by simpa using h0
  have hij:i=j:=by
   rcases Nat.lt_or_ge j i with hlt | hge
   ·exfalso
    have:=clos_ind (· < j) (fun k hk=>by
     have hki:=hda i hil k hk;simp only [da,ho,List.mem_map,List.mem_filter] at hk;obtain ⟨e,⟨he,hb⟩,hon⟩:=hk;have:=hall e (by simpa using he) hb;rw [hon,h2 k (by omega)] at this
     simpa using this) (fun k hki hkj m hm=>Nat.lt_trans (hda k (by omega) m hm) hkj) j (hchain i hji hil j hlt)
    omega
   omega
  subst hij
  have e1:ops.size - i=(ops.size - (i+1))+1:=by omega
  rw [e1,List.range'_succ,wpOpsIn_cons] at h;refine wpOpIn_mono (fun a w hh=>ih (i+1) _ a w (by omega) (by omega) (fun x hx=>hchain x (by omega)) (fun x hx=>?_) (fun x hx=>?_) hh) h
  ·by_cases hxi:i=x
   ·subst hxi
    have hsz:i<listed.size:=by
     rcases Nat.lt_or_ge i listed.size with h | h
     ·exact h
     have:=h1 i hil;simp [Array.getElem?_eq_none h] at this
    simp [hsz]
   rw [getD_set_ne true hxi,h1 x hx]
   congr 1
   apply propext;omega
  by_cases hxi:i=x
  ·subst hxi
   have hsz:i<listed.size:=by
    rcases Nat.lt_or_ge i listed.size with h | h
    ·exact h
    have:=h1 i hil;simp [Array.getElem?_eq_none h] at this
   simp [hsz]
  rw [getD_set_ne false hxi,h2 x hx]
  congr 1
  apply propext;omega
def JJ (ops:Array Oper) (p:Nat) (plan:Nat→HV) (S0:AS) (listed:Nat→Prop) (s:AS):Prop :=
 s.heap=S0.heap∧(∀ i t,i<p→listed i→dstOf ops i=some t→sget s.slots t=some (plan i)) ∧
  ∀ t,(∀ i,i<p→listed i→dstOf ops i≠some t)→sget s.slots t=sget S0.slots t
theorem JJ.step {ops:Array Oper} {p:Nat} {plan:Nat→HV} {S0:AS} {listed listed':Nat→Prop} (h:JJ ops p plan S0 listed s) {i:Nat} {o:Oper} (ho:ops[i]?=some o) (hi:i<p)
  (hdis:∀ k,k<p→k≠i→∀ d,dstOf ops i=some d→dstOf ops k≠some d) (hl:∀ k,listed' k↔listed k∨k=i) (he:(s.put o.dst (plan i)).eqv s'):JJ ops p plan S0 listed' s':=by
 have hdst:dstOf ops i=o.dst:=by simp [dstOf,ho]
 refine ⟨by rw [he.1,put_heap,h.1],fun k t hk hlk hd=>?_,fun t ht=>?_⟩
 ·rw [he.2,sget_put]
  by_cases hki:k=i
  ·subst hki
   rw [if_pos (by rw [← hdst]; exact hd)]
  rw [if_neg (fun e=>hdis k hk hki t (by rw [hdst]; exact e) hd)];exact h.2.1 k t hk (((hl k).1 hlk).resolve_right hki) hd
 rw [he.2,sget_put,if_neg (fun e=>ht i hi ((hl i).2 (.inr rfl)) (by rw [hdst]; exact e))];exact h.2.2 t fun k hk hlk=>ht k hk ((hl k).2 (.inl hlk))
theorem AW.drawX {id:Nat} {ops:Array Oper} {Q:Exit→AS→Prop} (p:Nat) (tail:AS→Prop) (hm:P.follows .mixedOrders=true) (hok:ops.toList.all (fun o=>okd N o.dst)=true) (hd:drawOk ops p=true)
  (htl:∀ s1,tail s1→AOps P ro N ops (List.range' p (ops.size - p)) (fun s'=>Q .normal s') s1) (h:asteps P ops.toList (ops.toList.take p) tail s):AW P ro N (.region id ops true) Q s:=by
 simp only [drawOk,Bool.and_eq_true,decide_eq_true_eq,List.all_eq_true,List.mem_range] at hd;obtain ⟨⟨⟨⟨hp,hdis⟩,hlook⟩,hchain⟩,hda⟩:=hd;intro w0 μ0 μ a w hs hE
 obtain ⟨plan,St,hS0,hK,hplan⟩:=asteps_plan (ro:=ro) hok (ops.toList.take p) 0 s (fun k hk=>by
  simp at hk
  rw [List.getElem?_take_of_lt (by omega),Nat.zero_add,Array.getElem?_toList]) h
 have hlen:(ops.toList.take p).length=p:=by simp; omega
 rw [hlen,Nat.zero_add] at hK;rw [hlen] at hplan;simp only [Nat.zero_add] at hplan
 have hdis':∀ i k,i<p→k<p→k≠i→∀ d,dstOf ops i=some d→dstOf ops k≠some d:=fun i k hi hk hki d hdi=>by
  have:=hdis i hi k hk;rw [hdi] at this;simp only [Bool.or_eq_true,beq_iff_eq,bne_iff_ne] at this;exact this.resolve_left fun e=>hki e.symm
 -- the states of the text's order
 have hJ:∀ j,j≤p→JJ ops p plan (St 0) (· < j) (St j):=by
  intro j
  induction j with
  | zero=>exact fun _=>⟨rfl,fun _ _ _ hx=>absurd hx (Nat.not_lt_zero _),fun _ _=>rfl⟩
  | succ j ih =>
   intro hj;obtain ⟨o,ho,_,he⟩:=hplan j (by omega);exact (ih (by omega)).step ho (by omega) (fun k hk hkj=>hdis' j k (by omega) hk hkj) (fun k=>by omega) he
 have hsz:(∀ i,i<ops.size→(Array.replicate ops.size false).getD i true=false):=fun i hi=>by simp [hi]
 -- the first p operations, in whatever order
 have main:∀ (fuel:Nat) (listed:Array Bool) (s1:AS) (μ1:Mu) (a1:Act) (w1:World),listed.size=ops.size→cnt listed≤fuel→(∀ i,i<ops.size→listed.getD i false=true→∀ k∈da ops i,listed.getD k false=true) →
   (∀ i,p≤i→i<ops.size→listed.getD i false=false)→JJ ops p plan (St 0) (fun i=>listed.getD i false=true) s1→SRel ro N w0.heap.size μ1 s1 a1 w1→Evo w0 μ0 w1 μ1 →
   wpAnyIn (fence ro) 0 P .any ops (Post ro N Q w0 μ0) fuel listed a1 w1:=by
  intro fuel
  have gd:∀ (listed:Array Bool) (i:Nat),listed.size=ops.size→i<ops.size→listed.getD i true=listed.getD i false:=fun listed i hl hi=>by
   have:i<listed.size:=by omega
   simp [this]
  -- when all of them are done
  have fin:∀ (fuel:Nat) (listed:Array Bool) (s1:AS) (μ1:Mu) (a1:Act) (w1:World),listed.size=ops.size→cnt listed≤fuel→(∀ i,i<p→listed.getD i false=true) →
    (∀ i,p≤i→i<ops.size→listed.getD i false=false)→JJ ops p plan (St 0) (fun i=>listed.getD i false=true) s1→SRel ro N w0.heap.size μ1 s1 a1 w1→Evo w0 μ0 w1 μ1 →
    wpAnyIn (fence ro) 0 P .any ops (Post ro N Q w0 μ0) fuel listed a1 w1:=by
   intro fuel listed s1 μ1 a1 w1 hl hc hall htail hj hs1 hE1
   have heq:s1.eqv (St p):=by
    have hp1:=hJ p (Nat.le_refl _);refine ⟨hp1.1.trans hj.1.symm,fun t=>?_⟩;by_cases hx:∃ i,i<p∧dstOf ops i=some t
    ·obtain ⟨i,hi,hdi⟩:=hx
     rw [hp1.2.1 i t hi hi hdi,hj.2.1 i t hi (hall i hi) hdi]
    rw [hp1.2.2 t (fun i hi _ hdi=>hx ⟨i,hi,hdi⟩),hj.2.2 t (fun i hi _ hdi=>hx ⟨i,hi,hdi⟩)]
   have hsp:=hs1.eqv heq
   have hops:=htl _ hK w0 μ0 μ1 a1 w1 (Post ro N Q w0 μ0) hsp hE1 fun μ' s' a' w' hk hs' hE' =>
    ⟨(fun _ h=>by cases h),(fun h=>by cases h),_,_,hk,hs',hE'⟩
   refine any_tail (fun i hi k hk=>hda i hi k hk) fuel p listed a1 w1 hp ?_ (fun i hpi hi k hk=>?_) (fun i hi=>?_) (fun i hi=>?_) hops
   ·have hcount:∀ (m:Nat) (l:List Bool),(∀ i,i<l.length→m≤i→l[i]?=some false)→l.length - m≤l.count false:=by
     intro m l
     induction l generalizing m with
     | nil=>intro _; simp
     | cons b l ih =>
      intro hx
      cases m with
      | zero =>
       have hb:=hx 0 (by simp) (Nat.le_refl _);simp at hb;subst hb;have:=ih 0 (fun i hi _=>by have:=hx (i+1) (by simpa using hi) (by omega); simpa using this);simp at this ⊢;omega
      | succ m =>
       have:=ih m (fun i hi hm=>by have:=hx (i+1) (by simpa using hi) (by omega); simpa using this);simp only [List.length_cons,List.count_cons];omega
    have:=hcount p listed.toList (fun i hi hpi=>by
     rw [Array.length_toList] at hi;have h3:=htail i hpi (by omega);rw [Array.getElem?_toList,Array.getElem?_eq_getElem hi];simp [hi] at h3
     rw [h3])
    rw [Array.length_toList] at this;unfold cnt at hc;omega
   ·have:=hchain i hi
    simp only [Bool.or_eq_true,decide_eq_true_eq,List.all_eq_true,List.mem_range,List.contains_iff_mem] at this;exact this.resolve_left (by omega) k hk
   ·rw [gd listed i hl hi]
    by_cases hip:i<p
    ·rw [hall i hip]; simp [hip]
    rw [htail i (by omega) hi]; simp [hip]
   by_cases hip:i<p
   ·rw [hall i hip]; simp [hip]
   rw [htail i (by omega) hi]; simp [hip]
  induction fuel with
  | zero =>
   intro listed s1 μ1 a1 w1 hl hc hcl htail hj hs1 hE1;refine fin 0 listed s1 μ1 a1 w1 hl hc (fun i hi=>?_) htail hj hs1 hE1
   cases hh:listed.getD i false with
   | true=>rfl
   | false =>
    have:=cnt_pos (listed:=listed) (i:=i) (by rw [gd listed i hl (by omega)]; exact hh);omega
  | succ fuel ih =>
   intro listed s1 μ1 a1 w1 hl hc hcl htail hj hs1 hE1;by_cases hall:∀ i,i<p→listed.getD i false=true
   ·exact fin (fuel+1) listed s1 μ1 a1 w1 hl hc hall htail hj hs1 hE1
   refine ⟨fun hr=>?_,fun i hi=>?_⟩
   ·exfalso
    -- the least operation that is not listed is ready
    obtain ⟨j,⟨hjp,hjl⟩,hmin⟩:=least (fun j=>j<p∧listed.getD j false=false) (by
     refine Classical.byContradiction fun hno=>hall fun i hi=>?_
     cases hh:listed.getD i false with
     | true=>rfl
     | false=>exact absurd ⟨i,hi,hh⟩ hno)
    have hjs:j<ops.size:=by omega
    have:j∈Region.ready .any ops listed:=by
     refine mem_ready.2 ⟨by rw [gd listed j hl hjs]; exact hjl,ops[j],by simp [hjs],fun e he hb=>?_⟩
     have hk:e.on∈da ops j:=by
      simp only [da,Array.getElem?_eq_getElem hjs,List.mem_map,List.mem_filter];exact ⟨e,⟨by simpa using he,hb⟩,rfl⟩
     have hlt:=hda j hjs _ hk
     cases hh:listed.getD e.on false with
     | true=>rfl
     | false=>have:=hmin e.on ⟨by omega,hh⟩; omega
    rw [hr] at this;cases this
   obtain ⟨h0,o,ho,hwait⟩:=mem_ready.1 hi;have his:=(Array.getElem?_eq_some_iff.1 ho).1
   have hil:listed.getD i false=false:=by rw [← gd listed i hl his]; exact h0
   have hdone:∀ k∈da ops i,listed.getD k false=true:=fun k hk=>by
    simp only [da,ho,List.mem_map,List.mem_filter] at hk;obtain ⟨e,⟨he,hb⟩,rfl⟩:=hk;exact hwait e (by simpa using he) hb
   have hip:i<p:=by
    rcases Nat.lt_or_ge i p with h | h
    ·exact h
    exfalso;refine hall fun k hk=>?_;have:=hchain i his;simp only [Bool.or_eq_true,decide_eq_true_eq,List.all_eq_true,List.mem_range,List.contains_iff_mem] at this;refine clos_ind (fun k=>listed.getD k false=true) hdone (fun k hki hkl m hm=>?_) k (this.resolve_left (by omega) k (by omega))
    rcases Nat.lt_or_ge k p with hkp | hkp
    ·exact hcl k (by omega) hkl m hm
    rw [htail k hkp (by omega)] at hkl;cases hkl
   obtain ⟨o',ho',hpure,_⟩:=hplan i hip;rw [ho] at ho';cases ho';have hSi:=hJ i (by omega)
   -- its operands are aa in the text's order
   have hagree:∀ t∈o.looksAt ops,sget s1.slots t=sget (St i).slots t:=by
    intro t ht;by_cases hx:∃ k,k<p∧dstOf ops k=some t
    ·obtain ⟨k,hk,hdk⟩:=hx
     have hc2:=hlook i hip k hk;rw [hdk,ho] at hc2;simp only [Bool.or_eq_true,Bool.not_eq_true',List.contains_eq_mem,decide_eq_false_iff_not] at hc2;have hc3:=hc2.resolve_left (fun hn=>hn ht);by_cases hki:k<i
     ·rw [if_pos hki] at hc3
      have hkd:k∈da ops i:=by simpa using hc3
      rw [hSi.2.1 k t hk hki hdk,hj.2.1 k t hk (hdone k hkd) hdk]
     rw [if_neg hki] at hc3
     have hkn:listed.getD k false=false:=by
      rcases (by simpa using hc3:k=i∨i∈da ops k) with e | hik
      ·rw [e]; exact hil
      cases hh:listed.getD k false with
      | false=>rfl
      | true =>
       have:=hcl k (by omega) hh i hik;rw [hil] at this;cases this
     rw [hSi.2.2 t (fun m hm hmi hdm=>?_),hj.2.2 t (fun m hm hml hdm=>?_)]
     ·by_cases hmk:m=k
      ·subst hmk
       have hml':listed.getD m false=true:=hml;rw [hkn] at hml';cases hml'
      exact hdis' k m hk hm hmk t hdk hdm
     by_cases hmk:m=k
     ·subst hmk; omega
     exact hdis' k m hk hm hmk t hdk hdm
    rw [hSi.2.2 t (fun m hm _ hdm=>hx ⟨m,hm,hdm⟩),hj.2.2 t (fun m hm _ hdm=>hx ⟨m,hm,hdm⟩)]
   refine hpure s1 (hj.1.trans hSi.1.symm) hagree (fun s2=>s2=s1.put o.dst (plan i)) rfl w0 μ0 μ1 a1 w1 _ _ hs1 hE1 ?_
   rintro μ2 s2 a2 w2 rfl hs2 hE2
   have hset:∀ k,(listed.setIfInBounds i true).getD k false=true↔listed.getD k false=true∨k=i:=fun k=>by
    by_cases hki:i=k
    ·subst hki
     have:i<listed.size:=by omega
     simp [this]
    rw [getD_set_ne false hki];exact ⟨.inl,fun h=>h.resolve_right fun e=>hki e.symm⟩
   have hcnt:=cnt_set (listed:=listed) (i:=i) h0;refine ih (listed.setIfInBounds i true) _ μ2 a2 w2 (by simp [hl]) (by omega) (fun j hj hlj k hk=>?_) (fun j hpj hjs=>?_) (hj.step ho hip (fun k hk hki=>hdis' i k hip hk hki) (fun k=>hset k) (AS.eqv.refl _)) hs2 hE2
   ·rcases (hset j).1 hlj with h | rfl
    ·exact (hset k).2 (.inl (hcl j hj h k hk))
    exact (hset k).2 (.inl (hdone k hk))
   cases hh:(listed.setIfInBounds i true).getD j false with
   | false=>rfl
   | true =>
    rcases (hset j).1 hh with h | h
    ·rw [htail j hpj hjs] at h; cases h
    omega
 refine wpIn_region_any hm ?_;have g:=Grow.drew1 w (w.drawn+1);have hE':=Evo.grow hs.sr g
 have hs':SRel ro N w0.heap.size μ s a { w with drawn:=w.drawn+1 } :=
  ⟨hs.size,hs.sr.grow g,fun t hv ht=>⟨(hs.slot t hv ht).1,Rep.evo hE' hs.sr.ok _ _ (hs.slot t hv ht).2⟩,hs.marks.evo hE',hs.ro.evo hE'⟩
 refine main ops.size (Array.replicate ops.size false) s μ a _ (by simp) (by simp [cnt]) (fun i hi hl=>?_) (fun i _ hi=>by simp [hi]) ⟨hS0.1.symm,fun i t hi hl=>?_,fun t _=>(hS0.2 t).symm⟩ hs' (hE.trans hE')
 ·simp [hi] at hl
 have hi':i<ops.size:=by omega
 simp [hi'] at hl
theorem AW.draw {id:Nat} {ops:Array Oper} {Q:Exit→AS→Prop} (p:Nat) (ks:List Nat) (hm:P.follows .mixedOrders=true) (hok:ops.toList.all (fun o=>okd N o.dst)=true) (hd:drawOk ops p=true)
  (h:∀ K:AS→Prop,(∀ s',Q .normal s'→K s')→asteps P ops.toList (ops.toList.take p) (fun s1=>aops P fid mt ops.toList (ops.toList.drop p) (fun s'=>K (s'.keep ks)) s1) s):AW P ro N (.region id ops true) Q s:=by
 refine AW.conseq (Q':=fun e s'=>e=.normal∧Q .normal (s'.keep ks)) (AW.drawX p _ hm hok hd (fun s1 h1=>?_) (h (Q .normal) fun _ h=>h)) fun e s1 ⟨he,h⟩=>he ▸ ⟨s1.keep ks,AS.le_keep s1 ks,h⟩;have hso:=aops_sound (ro:=ro) hok (ops.toList.drop p) p s1 (fun k=>by rw [List.getElem?_drop,Array.getElem?_toList]) h1
 have hld:(ops.toList.drop p).length=ops.size - p:=by simp
 rw [hld] at hso;intro w0 μ0 μ a w Q' hs hE hK;exact hso w0 μ0 μ a w Q' hs hE fun μ' s' a' w' hk hs' hE'=>hK μ' s' a' w' ⟨rfl,hk⟩ hs' hE'
end
mutual
def clean:HV→Prop
 | .int _ _ | .bool _ | .str _ | .v _=>True
 | .agg cs | .tup cs | .sl _ _ cs | .fptr cs _=>cleanL cs
 | .fn _ fs cs=>cleanL fs∧cleanL cs
 | .ar _ _ _ _ _ | .ptr _ _ _ | .mp _ _ | .yl _ _ | .it _ _=>False
def cleanL:List HV→Prop
 | []=>True
 | c::cs=>clean c∧cleanL cs
end
theorem cleanL_iff:∀ {cs:List HV},cleanL cs↔∀ c∈cs,clean c
 | []=>by simp [cleanL]
 | c::cs=>by simp [cleanL,cleanL_iff (cs:=cs)]
mutual
def fact:HV→Prop
 | .int k n=>(Lit.int k n).wf=true
 | .str l=>l.length≤maxLen
 | .agg cs | .tup cs | .fptr cs _=>factL cs
 | .sl k n cs=>n≤maxLen∧cs.length=n*k∧factL cs
 | _=>True
def factL:List HV→Prop
 | []=>True
 | c::cs=>fact c∧factL cs
end
theorem factL_iff:∀ {cs:List HV},factL cs↔∀ c∈cs,fact c
 | []=>by simp [factL]
 | c::cs=>by simp [factL,factL_iff (cs:=cs)]
mutual
theorem Rep.fact {w:World} {μ:Mu}:∀ (hv:HV) (val:Value),Rep w μ hv val→AW.fact hv
 | .int _ _,_,h=>h.2
 | .bool _,_,_=>trivial
 | .str _,_,h=>h.2
 | .v _,_,_=>trivial
 | .agg cs,_,⟨_,vs,_,h⟩=>RepL.fact cs vs h
 | .tup cs,_,⟨vs,_,h⟩=>RepL.fact cs vs h
 | .sl _ _ [],_,⟨_,hl,hm,_⟩=>⟨hm,hl,trivial⟩
 | .sl _ _ (c::cs),_,⟨_,hl,hm,h⟩=>⟨hm,hl,by
  rcases h with ⟨h0,_⟩ | ⟨b,off,cap,vs,_,_,_,_,h⟩
  ·subst h0; simp at hl
  exact RepL.fact (c::cs) vs h⟩
 | .fptr cs _,_,⟨_,b,base,vs,_,_,_,h⟩=>RepL.fact cs vs h
 | .fn _ _ _,_,_=>trivial
 | .ar _ _ _ _ _,_,_=>trivial
 | .ptr _ _ _,_,_=>trivial
 | .mp _ _,_,_=>trivial
 | .yl _ _,_,_=>trivial
 | .it _ _,_,_=>trivial
theorem RepL.fact {w:World} {μ:Mu}:∀ (cs:List HV) (vs:List Value),RepL w μ cs vs→factL cs
 | [],_,_=>trivial
 | c::cs,_,⟨x,xs,_,h1,h2⟩=>⟨Rep.fact c x h1,RepL.fact cs xs h2⟩
end
section
variable {P:Program} {ro:Option Nat} {N:Nat} {s s':AS} {Q:Exit→AS→Prop}
theorem AW.fact {c:Code} {t:Nat} {hv:HV} (h:sget s.slots t=some hv) (k:AW.fact hv→AW P ro N c Q s):AW P ro N c Q s :=
 fun w0 μ0 μ a w hs hE=>k (Rep.fact hv _ (hs.slot t hv h).2) w0 μ0 μ a w hs hE
end
theorem ACall.facts {P:Program} {f:FuncId} {args:List HV} {H:Heap} {K:HV→Heap→Prop} (he:Enters' P f) (h:factL args→ACall P f args H K):ACall P f args H K :=
 ⟨he,fun μ w vs hs hr hgl=>(h (RepL.fact args vs hr)).2 μ w vs hs hr hgl⟩
def Pure (P:Program) (f:FuncId) (args:List HV) (R:HV→Prop):Prop:=ACall P f args [] fun r H'=>R r∧clean r∧H'=[]
def Mu.hide (μ:Mu):Mu:={ nx:=μ.nx,loc:=fun _=>none,held:=fun b=>μ.owns b }
theorem hide_owns (μ:Mu) (b:Nat):μ.hide.owns b↔μ.owns b :=
 ⟨fun h=>h.elim (fun ⟨_,_,h⟩=>by cases h) id,fun h=>.inr h⟩
theorem hide_dead {μ:Mu} (hok:μ.ok) {id ver:Nat} {l:Option Nat} (h:μ.loc id=some (ver,l)):μ.hide.dead id ver:=⟨hok _ _ _ h,fun b hb=>by cases hb⟩
theorem hide_dead' {μ:Mu} {id ver:Nat} (h:μ.dead id ver):μ.hide.dead id ver:=⟨h.1,fun b hb=>by cases hb⟩
mutual
theorem Rep.hide {w:World} {μ:Mu} (hok:μ.ok):∀ (hv:HV) (val:Value),Rep w μ hv val→Rep w μ.hide hv val
 | .int _ _,_,h=>h
 | .bool _,_,h=>h
 | .str _,_,h=>h
 | .v _,_,h=>h
 | .agg cs,_,⟨h1,vs,e,h⟩=>⟨h1,vs,e,RepL.hide hok cs vs h⟩
 | .tup cs,_,⟨vs,e,h⟩=>⟨vs,e,RepL.hide hok cs vs h⟩
 | .sl _ _ cs,_,⟨h1,hl,hm,h⟩=>⟨h1,hl,hm,h.imp id fun ⟨b,off,cap,vs,e,hn,ho,hs,hr⟩ =>
   ⟨b,off,cap,vs,e,hn,fun h=>ho ((hide_owns μ b).1 h),hs,RepL.hide hok cs vs hr⟩⟩
 | .ar _ _ _ _ _,_,h=>by
  rcases h with ⟨l,hl,⟨_,rfl,_⟩ | ⟨b,cap,cur,e,_,rfl,_⟩⟩ | ⟨hd,h⟩
  ·exact .inr ⟨hide_dead hok hl,_,_,_,rfl⟩
  ·exact .inr ⟨hide_dead hok hl,_,_,_,rfl⟩
  exact .inr ⟨hide_dead' hd,h⟩
 | .ptr _ _ _,_,h=>by
  rcases h with ⟨b,hl,rfl⟩ | ⟨hd,h⟩
  ·exact .inr ⟨hide_dead hok hl,_,rfl⟩
  exact .inr ⟨hide_dead' hd,h⟩
 | .fptr cs _,_,⟨h1,b,base,vs,e,ho,hs,hr⟩=>⟨h1,b,base,vs,e,fun h=>ho ((hide_owns μ b).1 h),hs,RepL.hide hok cs vs hr⟩
 | .fn _ fs cs,_,⟨us,vs,e,h1,h2⟩=>⟨us,vs,e,RepL.hide hok fs us h1,RepL.hide hok cs vs h2⟩
 | .mp _ _,_,h=>by
  rcases h with ⟨b,hl,rfl⟩ | ⟨hd,h⟩
  ·exact .inr ⟨hide_dead hok hl,_,rfl⟩
  exact .inr ⟨hide_dead' hd,h⟩
 | .yl _ _,_,h=>by
  rcases h with ⟨b,hl,rfl⟩ | ⟨hd,h⟩
  ·exact .inr ⟨hide_dead hok hl,_,rfl⟩
  exact .inr ⟨hide_dead' hd,h⟩
 | .it _ _,_,h=>by
  rcases h with ⟨b,hl,rfl⟩ | ⟨hd,h⟩
  ·exact .inr ⟨hide_dead hok hl,_,rfl⟩
  exact .inr ⟨hide_dead' hd,h⟩
theorem RepL.hide {w:World} {μ:Mu} (hok:μ.ok):∀ (cs:List HV) (vs:List Value),RepL w μ cs vs→RepL w μ.hide cs vs
 | [],_,h=>h
 | c::cs,_,⟨x,xs,e,h1,h2⟩=>⟨x,xs,e,Rep.hide hok c x h1,RepL.hide hok cs xs h2⟩
end
mutual
theorem Rep.clean {w:World} {μ μ':Mu} (ho:∀ b,μ'.owns b→μ.owns b):∀ (hv:HV) (val:Value),AW.clean hv→Rep w μ hv val→Rep w μ' hv val
 | .int _ _,_,_,h=>h
 | .bool _,_,_,h=>h
 | .str _,_,_,h=>h
 | .v _,_,_,h=>h
 | .agg cs,_,hc,⟨h1,vs,e,h⟩=>⟨h1,vs,e,RepL.clean ho cs vs hc h⟩
 | .tup cs,_,hc,⟨vs,e,h⟩=>⟨vs,e,RepL.clean ho cs vs hc h⟩
 | .sl _ _ cs,_,hc,⟨h1,hl,hm,h⟩=>⟨h1,hl,hm,h.imp id fun ⟨b,off,cap,vs,e,hn,hno,hs,hr⟩=>⟨b,off,cap,vs,e,hn,fun h=>hno (ho b h),hs,RepL.clean ho cs vs hc hr⟩⟩
 | .fptr cs _,_,hc,⟨h1,b,base,vs,e,hno,hs,hr⟩=>⟨h1,b,base,vs,e,fun h=>hno (ho b h),hs,RepL.clean ho cs vs hc hr⟩
 | .fn _ fs cs,_,hc,⟨us,vs,e,h1,h2⟩=>⟨us,vs,e,RepL.clean ho fs us hc.1 h1,RepL.clean ho cs vs hc.2 h2⟩
 | .ar _ _ _ _ _,_,hc,_=>hc.elim
 | .ptr _ _ _,_,hc,_=>hc.elim
 | .mp _ _,_,hc,_=>hc.elim
 | .yl _ _,_,hc,_=>hc.elim
 | .it _ _,_,hc,_=>hc.elim
theorem RepL.clean {w:World} {μ μ':Mu} (ho:∀ b,μ'.owns b→μ.owns b):∀ (cs:List HV) (vs:List Value),cleanL cs→RepL w μ cs vs→RepL w μ' cs vs
 | [],_,_,h=>h
 | c::cs,_,hc,⟨x,xs,e,h1,h2⟩=>⟨x,xs,e,Rep.clean ho c x hc.1 h1,RepL.clean ho cs xs hc.2 h2⟩
end
theorem ACall.pure {P:Program} {f:FuncId} {args args':List HV} {H:Heap} {K:HV→Heap→Prop} {R:HV→Prop} (n:Nat) (D H':Heap) (hp:Pure P f args' R) (hs':∀ id x,hget H' id=some x→hget H id=some x)
  (hD:∀ id x,hget D id=some x→hget H id=some x∧hget H' id=none) (ha:args.map (frz n D)=args') (hK:∀ r,R r→K r H'):ACall P f args H K:=by
 refine ⟨hp.1,fun μ w vs hs hr hgl=>?_⟩;have hsub:=hs.sub hs'
 have hfr:RepL w (μ.cut H') args' vs:=by rw [← ha]; exact RepL.mapF (fun c x _=>frz_rep hs hD n c x) hr
 have h0:SR w (μ.cut H').hide [] :=
  ⟨(fun _ _ _ h=>by cases h),(fun _ _ _ h=>by cases h),(fun _ _ h=>by cases h),(fun _ _ _ _ _ h=>by cases h),(fun b hb=>⟨hb.elim (fun ⟨_,_,hl⟩=>hsub.blk hl) (fun h=>(hsub.held b h).1),fun ⟨_,_,hl⟩=>by cases hl⟩)⟩
 refine (hp.2 (μ.cut H').hide w vs h0 (RepL.hide hsub.ok _ _ hfr) (hgl.less fun b ⟨_,_,hl⟩=>by cases hl)).mono ?_
 rintro e w' ⟨v,r,H1,μ1,rfl,⟨hR,hcl,rfl⟩,hs1,hr1,E⟩
 have g:Grow w w':=⟨⟨E.os,E.tape,E.output,E.drawn⟩,E.size,fun b hb=>E.keep b hb fun ⟨_,_,hl⟩=>by cases hl⟩;have hsg:=hsub.grow g;have hEg:=Evo.grow hsub g;refine ⟨v,r,H',{ nx:=max (μ.cut H').nx μ1.nx,loc:=(μ.cut H').loc,held:=(μ.cut H').held },rfl,hK r hR,?_,?_,?_⟩
 ·refine ⟨fun id ver b h=>Nat.lt_of_lt_of_le (hsg.ok id ver b h) (Nat.le_max_left _ _),fun id ver o ho=>?_,hsg.only,hsg.inj,hsg.held⟩
  obtain ⟨l,hl,hor⟩:=hsg.has id ver o ho;refine ⟨l,hl,hor.evo (μ':={ nx:=max (μ.cut H').nx μ1.nx,loc:=(μ.cut H').loc,held:=(μ.cut H').held }) ?_ hsg.ok (fun _ _=>rfl) (fun _ _ _ _ _ _ _ _=>rfl)⟩;exact ⟨rfl,rfl,rfl,Nat.le_refl _,Nat.le_refl _,Nat.le_max_left _ _,fun _ _ _=>rfl,fun _ _ _ h _=>h,fun _ _ _ _ _ cur _ h=>⟨cur,h,rfl⟩,fun id ver _ h _=>⟨id,ver,h⟩,rfl⟩
 ·refine Rep.clean (fun b hb=>?_) r v hcl hr1
  right;rw [E.held];exact hb
 refine ((Evo.cut w μ H').trans hEg).trans ?_;exact ⟨rfl,rfl,rfl,Nat.le_refl _,Nat.le_refl _,Nat.le_max_left _ _,fun _ _ _=>rfl,fun _ _ _ h _=>h,fun _ _ _ _ _ cur _ h=>⟨cur,h,rfl⟩,fun id ver _ h _=>⟨id,ver,h⟩,rfl⟩
theorem ACall.pure0 {P:Program} {f:FuncId} {args:List HV} {H:Heap} {K:HV→Heap→Prop} {R:HV→Prop} (hp:Pure P f args R) (hK:∀ r,R r→K r H):ACall P f args H K :=
 ACall.pure 0 [] H hp (fun _ _ h=>h) (fun _ _ h=>by cases h) (by simp [frz]) hK
theorem ACallD.pure0 {P:Program} {f:FuncId} {args:List HV} {H:Heap} {hv:HV} (hp:Pure P f args (· = hv)):ACallD P f args H hv :=
 ACall.pure0 hp fun _ h=>⟨h,rfl⟩
theorem Pure.of_body {P:Program} {f:FuncId} {fn:Func} {c:Code} {args:List HV} {R:HV→Prop} (hf:P.funcs[f]?=some fn) (hname:(fn.name == "runtime.NumGoroutine")=false)
  (hb:fn.body=some c) (hN:args.length≤fn.ntmps) (h:factL args→AW P none fn.ntmps c (retQ P fn.results.toList fun r H'=>R r∧clean r∧H'=[]) { slots:=enumS 0 args,heap:=[] }):Pure P f args R :=
 ACall.facts (enters' hf hname hb) fun hfact=>ACall.of_body hf hname hb hN (h hfact)
theorem Pure.mono {P:Program} {f:FuncId} {args:List HV} {R R':HV→Prop} (h:Pure P f args R) (hr:∀ r,R r→R' r):Pure P f args R' :=
 ACall.mono h fun _ _ ⟨h1,h2⟩=>⟨hr _ h1,h2⟩
section
variable {P:Program} {ro:Option Nat} {N:Nat} {s:AS} {fid:Nat} {mt:List Nat} {Q:Exit→AS→Prop}
theorem AW.rseq {id:Nat} {ops:Array Oper} {y:Code} (ks:List Nat) (hok:ops.toList.all (fun o=>okd N o.dst)=true)
  (h:∀ K:AS→Prop,(∀ s',AW P ro N y Q s'→K s')→aops P fid mt ops.toList ops.toList (fun s'=>K (s'.keep ks)) s):AW P ro N (.seq (.region id ops false) y) Q s :=
 AW.seq (AW.region ks hok h)
theorem AW.cseq {c:Operand} {x y z:Code} {t:Bool} (hc:s.ev c=some (.bool t)) (h1:t=true→AW P ro N x (thenQ (AW P ro N z Q) Q) s) (h2:t=false→AW P ro N y (thenQ (AW P ro N z Q) Q) s) :
  AW P ro N (.seq (.cond c x y) z) Q s:=AW.seq (AW.cond hc h1 h2)
def leS (l:List (Nat × HV)):List (Nat × HV)→Prop
 | []=>True
 | (i,h)::l'=>sget l i=some h∧leS l l'
theorem leS_get {l:List (Nat × HV)}:∀ {l':List (Nat × HV)},leS l l'→∀ t hv,sget l' t=some hv→sget l t=some hv
 | [],_,_,_,h=>by cases h
 | (i,g)::l',h,t,hv,ht=>by
  simp only [sget] at ht;split at ht
  ·rename_i e; subst e; cases ht; exact h.1
  exact leS_get h.2 t hv ht
def leH (l:Heap):Heap→Prop
 | []=>True
 | (i,x)::l'=>hget l i=some x∧leH l l'
theorem leH_get {l:Heap}:∀ {l':Heap},leH l l'→∀ t hv,hget l' t=some hv→hget l t=some hv
 | [],_,_,_,h=>by cases h
 | (i,g)::l',h,t,hv,ht=>by
  obtain ⟨v,o⟩:=g;simp only [hget] at ht;split at ht
  ·rename_i e; subst e; cases ht; exact h.1
  exact leH_get h.2 t hv ht
theorem AS.le_of {s s':AS} (h1:leS s.slots s'.slots) (h2:leH s.heap s'.heap):s.le s':=⟨leS_get h1,leH_get h2⟩
theorem AW.put {c:Code} {s':AS} (hl:s.le s') (h:AW P ro N c Q s'):AW P ro N c Q s:=AW.weaken h hl
theorem AW.loopS {c:Code} {α:Type} (St:α→AS) (I:α→Prop) (m:α→Nat) (a0:α) (h0:s.le (St a0)) (hI:I a0)
  (round:∀ a,I a→AW P ro N c (thenQ (fun s'=>∃ b,I b∧m b<m a∧s'.le (St b)) Q) (St a)):AW P ro N (.loop c) Q s:=by
 refine AW.loop' (fun n s=>∃ a,I a∧s=St a∧m a=n) ⟨_,_,h0,a0,hI,rfl,rfl⟩ ?_
 rintro n s ⟨a,ha,rfl,rfl⟩
 refine (round a ha).mono ?_
 rintro e s' h
 cases e with
 | normal=>obtain ⟨b,hb,hlt,hl⟩:=h; exact ⟨_,hlt,_,hl,b,hb,rfl,rfl⟩
 | exit id=>exact h
 | goto l=>exact h
 | ret=>exact h
 | panic ch=>exact h
 | outgrown=>exact h
end
attribute [go_sem] aops aop aval AS.ev sget sset AS.put constHV Lit.wf AS.keep skeep inL loadK abin abinT asteps aopS aslice leS leH okd HV.cells? abuild placesOf aparts afill noIter setPs elemSize asl isMut cid zcells aggD alive hget hset abase asrc baseId splice minmax resOne resAll joinR
 Bool.false_eq_true Bool.true_eq_false true_and and_true decide_true decide_false Bool.and_self thenQ blockQ Option.map_some Int.toNat_natCast Nat.mul_one List.mapM_cons List.mapM_nil Option.pure_def Option.bind_eq_bind Option.bind_some List.nil_append List.cons_append List.append_nil
@[go_sem] theorem min_i64:IntKind.min .i64 = -9223372036854775808:=rfl
@[go_sem] theorem max_i64:IntKind.max .i64=9223372036854775807:=rfl
@[go_sem] theorem min_u8:IntKind.min .u8=0:=rfl
@[go_sem] theorem max_u8:IntKind.max .u8=255:=rfl
@[go_sem] theorem min_u64:IntKind.min .u64=0:=rfl
@[go_sem] theorem max_u64:IntKind.max .u64=18446744073709551615:=rfl
@[go_sem] theorem min_u32:IntKind.min .u32=0:=rfl
@[go_sem] theorem max_u32:IntKind.max .u32=4294967295:=rfl
@[go_sem] theorem u8_eq (a b:UInt8):((a.toNat:Int)=b.toNat)=(a=b):=by
 rw [← UInt8.toNat_inj]; exact propext Int.ofNat_inj
@[go_sem] theorem u8_ne (a b:UInt8):((a.toNat:Int)≠b.toNat)=(a≠b):=by
 rw [ne_eq,u8_eq]
theorem w64 {n:Int} (h1 : -9223372036854775808≤n) (h2:n≤9223372036854775807):IntKind.wrap .i64 n=n:=by
 rw [IntKind.wrap_i64]; omega
def sortS (l:List (List UInt8)):List (List UInt8):=l.mergeSort fun x y=>decide (x≤y)
def sortI (l:List Int):List Int:=l.mergeSort fun x y=>decide (x≤y)
section
variable {α:Type} (le:α→α→Bool)
end
theorem le_total_bytes (a b:List UInt8):(decide (a≤b) || decide (b≤a))=true:=by
 have:=List.le_total a b
 simpa using this
theorem le_trans_bytes (a b c:List UInt8) (h1:decide (a≤b)=true) (h2:decide (b≤c)=true):decide (a≤c)=true:=by
 simp only [decide_eq_true_eq] at *;exact List.le_trans h1 h2
theorem sortS_eq {l l':List (List UInt8)} (h:l.Perm l') (hs:l'.Pairwise fun a b=>decide (a≤b)=true):sortS l=l':=by
 refine List.Perm.eq_of_pairwise (le:=fun a b=>decide (a≤b)=true) (fun a b _ _ h1 h2=>?_) (List.pairwise_mergeSort le_trans_bytes le_total_bytes l) hs ((List.mergeSort_perm l _).trans h);simp only [decide_eq_true_eq] at h1 h2;exact List.le_antisymm h1 h2
theorem sortS_perm {l l':List (List UInt8)} (h:l.Perm l'):sortS l=sortS l' :=
 sortS_eq (h.trans (List.mergeSort_perm l' _).symm) (List.pairwise_mergeSort le_trans_bytes le_total_bytes l')
theorem sortS_len (l:List (List UInt8)):(sortS l).length=l.length:=(List.mergeSort_perm l _).length_eq
theorem sortI_len (l:List Int):(sortI l).length=l.length:=(List.mergeSort_perm l _).length_eq
structure SortsS (P:Program) (f:FuncId):Prop where
 arr:∀ (H:Heap) (id ver:Nat) (e:TypeId) (l:List (List UInt8)) (K:HV→Heap→Prop),hget H id=some (ver,.arr 1 e (l.map .str))→l.length<4611686018427387904→K (.tup []) (hset H id ver (.arr 1 e ((sortS l).map .str)))→ACall P f [.ar id ver 1 0 l.length] H K
 nil:∀ (H:Heap) (K:HV→Heap→Prop),K (.tup []) H→ACall P f [.v (.slice none 0 0)] H K
structure SortsI (P:Program) (f:FuncId):Prop where
 arr:∀ (H:Heap) (id ver:Nat) (e:TypeId) (l:List Int) (K:HV→Heap→Prop),hget H id=some (ver,.arr 1 e (l.map (.int .i64)))→l.length<4611686018427387904→K (.tup []) (hset H id ver (.arr 1 e ((sortI l).map (.int .i64))))→ACall P f [.ar id ver 1 0 l.length] H K
 nil:∀ (H:Heap) (K:HV→Heap→Prop),K (.tup []) H→ACall P f [.v (.slice none 0 0)] H K
section
variable {P:Program} {ro:Option Nat} {N:Nat} {s:AS}
def AnyAt (P:Program) (ro:Option Nat) (N:Nat) (ops:Array Oper) (Q:Exit→AS→Prop) (q:Nat) (s:AS):Prop :=
 ∀ (w0:World) (μ0:Mu) (fuel:Nat) (listed:Array Bool) (μ1:Mu) (a1:Act) (w1:World),listed.size=ops.size→cnt listed≤fuel→(∀ i,i<ops.size→listed.getD i false=decide (i<q)) →
  SRel ro N w0.heap.size μ1 s a1 w1→Evo w0 μ0 w1 μ1→wpAnyIn (fence ro) 0 P .any ops (Post ro N Q w0 μ0) fuel listed a1 w1
def daOk (ops:Array Oper):Bool:=(List.range ops.size).all fun i=>(da ops i).all fun k=>decide (k<i)
def waitOk (ops:Array Oper) (q p:Nat):Bool:=(List.range ops.size).all fun i=>decide (i<p) || ((List.range p).all fun k=>decide (k<q) || (clos ops i).contains k)
def segOk (ops:Array Oper) (q p:Nat):Bool :=
 ((List.range p).all fun i=>decide (i<q) || ((List.range p).all fun k=>decide (k<q) || (i == k || (match dstOf ops i with
  | some d=>dstOf ops k != some d
  | none=>true)))) &&
 ((List.range p).all fun i=>decide (i<q) || ((List.range p).all fun k=>decide (k<q) || (match dstOf ops k,ops[i]? with
  | some d,some o=>!(o.looksAt ops).contains d || (if k<i then (da ops i).contains k else k == i || (da ops k).contains i)
  | _,_=>true)))
theorem getD_tf {listed:Array Bool} {i:Nat} (h:i<listed.size):listed.getD i true=listed.getD i false:=by simp [h]
theorem daOk_spec {ops:Array Oper} (h:daOk ops=true):∀ i,i<ops.size→∀ k∈da ops i,k<i:=by
 simp only [daOk,List.all_eq_true,List.mem_range,decide_eq_true_eq] at h;exact h
theorem waitOk_spec {ops:Array Oper} {q p:Nat} (h:waitOk ops q p=true):∀ i,p≤i→i<ops.size→∀ k,q≤k→k<p→k∈clos ops i:=by
 simp only [waitOk,List.all_eq_true,List.mem_range,Bool.or_eq_true,decide_eq_true_eq,List.contains_iff_mem] at h;intro i hpi hi k hqk hkp;exact ((h i hi).resolve_left (by omega) k hkp).resolve_left (by omega)
theorem AnyAt.done {ops:Array Oper} {Q:Exit→AS→Prop} (hda:daOk ops=true) (h:Q .normal s):AnyAt P ro N ops Q ops.size s:=by
 intro w0 μ0 fuel listed μ1 a1 w1 hl hc hlist hs hE;refine any_tail (daOk_spec hda) fuel ops.size listed a1 w1 (Nat.le_refl _) (by omega) (fun i h1 h2=>by omega) (fun i hi=>?_) hlist ?_
 ·rw [getD_tf (by omega)]; exact hlist i hi
 rw [Nat.sub_self];exact ⟨(fun _ h=>by cases h),(fun h=>by cases h),_,_,h,hs,hE⟩
theorem ready_of {ops:Array Oper} {listed:Array Bool} (hda:∀ i,i<ops.size→∀ k∈da ops i,k<i) (hl:listed.size=ops.size) {j:Nat} (hj:j<ops.size) (hjl:listed.getD j false=false) (hmin:∀ k,k<j→listed.getD k false=true) :
  j∈Region.ready .any ops listed:=by
 refine mem_ready.2 ⟨by rw [getD_tf (by omega)]; exact hjl,ops[j],by simp [hj],fun e he hb=>?_⟩
 have hk:e.on∈da ops j:=by
  simp only [da,Array.getElem?_eq_getElem hj,List.mem_map,List.mem_filter];exact ⟨e,⟨by simpa using he,hb⟩,rfl⟩
 exact hmin _ (hda j hj _ hk)
theorem deps_done {ops:Array Oper} {listed:Array Bool} {i:Nat} (hi:i∈Region.ready .any ops listed):∀ k∈da ops i,listed.getD k false=true:=by
 obtain ⟨h0,o,ho,hwait⟩:=mem_ready.1 hi;intro k hk;simp only [da,ho,List.mem_map,List.mem_filter] at hk;obtain ⟨e,⟨he,hb⟩,rfl⟩:=hk;exact hwait e (by simpa using he) hb
theorem AnyAt.op {ops:Array Oper} {Q:Exit→AS→Prop} {q:Nat} (hda:daOk ops=true) (hq:q<ops.size) (hw:waitOk ops q (q+1)=true) (h:AOpI P ro N ops q (AnyAt P ro N ops Q (q+1)) s):AnyAt P ro N ops Q q s:=by
 intro w0 μ0 fuel listed μ1 a1 w1 hl hc hlist hs hE;have hda':=daOk_spec hda
 have hqn:listed.getD q false=false:=by rw [hlist q hq]; simp
 cases fuel with
 | zero =>
  have:=cnt_pos (listed:=listed) (i:=q) (by rw [getD_tf (by omega)]; exact hqn);omega
 | succ fuel =>
  refine ⟨fun hr=>?_,fun i hi=>?_⟩
  ·exfalso
   have:=ready_of hda' hl hq hqn fun k hk=>by rw [hlist k (by omega)]; simp [hk]
   rw [hr] at this;cases this
  have hdone:=deps_done hi;obtain ⟨h0,o,ho,_⟩:=mem_ready.1 hi;have his:=(Array.getElem?_eq_some_iff.1 ho).1;rw [getD_tf (by omega),hlist i his] at h0
  have hqi:q≤i:=by simpa using h0
  have hiq:i=q:=by
   rcases Nat.lt_or_ge q i with hlt | hge
   ·exfalso
    have hc:=waitOk_spec hw i hlt his q (Nat.le_refl _) (Nat.lt_succ_self _)
    have:=clos_ind (fun k=>k<q) (fun k hk=>by
     have hd:=hdone k hk;rw [hlist k (Nat.lt_trans (hda' i his k hk) his)] at hd
     simpa using hd) (fun k hki hkq m hm=>Nat.lt_trans (hda' k (by omega) m hm) hkq) q hc
    omega
   omega
  subst hiq;refine h w0 μ0 μ1 a1 w1 _ _ hs hE fun μ2 s2 a2 w2 hk hs2 hE2=>hk w0 μ0 fuel _ μ2 a2 w2 (by simp [hl]) ?_ (fun k hk=>?_) hs2 hE2
  ·have:=cnt_set (listed:=listed) (i:=i) (by rw [getD_tf (by omega)]; exact hqn)
   omega
  by_cases hki:i=k
  ·subst hki
   have:i<listed.size:=by omega
   simp [this]
  rw [getD_set_ne false hki,hlist k hk]
  congr 1
  apply propext;omega
def JQ (ops:Array Oper) (q p:Nat) (plan:Nat→HV) (S0:AS) (listed:Nat→Prop) (s:AS):Prop :=
 s.heap=S0.heap∧(∀ i t,q≤i→i<p→listed i→dstOf ops i=some t→sget s.slots t=some (plan i)) ∧
  ∀ t,(∀ i,q≤i→i<p→listed i→dstOf ops i≠some t)→sget s.slots t=sget S0.slots t
theorem JQ.step {ops:Array Oper} {q p:Nat} {plan:Nat→HV} {S0 s s':AS} {listed listed':Nat→Prop} (h:JQ ops q p plan S0 listed s) {i:Nat} {o:Oper} (ho:ops[i]?=some o) (hq:q≤i) (hi:i<p)
  (hdis:∀ k,q≤k→k<p→k≠i→∀ d,dstOf ops i=some d→dstOf ops k≠some d) (hl:∀ k,listed' k↔listed k∨k=i) (he:(s.put o.dst (plan i)).eqv s'):JQ ops q p plan S0 listed' s':=by
 have hdst:dstOf ops i=o.dst:=by simp [dstOf,ho]
 refine ⟨by rw [he.1,put_heap,h.1],fun k t hqk hk hlk hd=>?_,fun t ht=>?_⟩
 ·rw [he.2,sget_put]
  by_cases hki:k=i
  ·subst hki
   rw [if_pos (by rw [← hdst]; exact hd)]
  rw [if_neg (fun e=>hdis k hqk hk hki t (by rw [hdst]; exact e) hd)];exact h.2.1 k t hqk hk (((hl k).1 hlk).resolve_right hki) hd
 rw [he.2,sget_put,if_neg (fun e=>ht i hq hi ((hl i).2 (.inr rfl)) (by rw [hdst]; exact e))];exact h.2.2 t fun k hqk hk hlk=>ht k hqk hk ((hl k).2 (.inl hlk))
theorem AnyAt.steady {ops:Array Oper} {Q:Exit→AS→Prop} {q:Nat} (p:Nat) (tail:AS→Prop) (hok:ops.toList.all (fun o=>okd N o.dst)=true) (hda:daOk ops=true) (hqp:q≤p) (hp:p≤ops.size) (hw:waitOk ops q p=true) (hseg:segOk ops q p=true)
  (htail:∀ s1,tail s1→AnyAt P ro N ops Q p s1) (h:asteps P ops.toList ((ops.toList.drop q).take (p - q)) tail s):AnyAt P ro N ops Q q s:=by
 have hda':=daOk_spec hda;have hchain:=waitOk_spec hw;simp only [segOk,Bool.and_eq_true,Bool.or_eq_true,decide_eq_true_eq,List.all_eq_true,List.mem_range] at hseg;obtain ⟨hdis,hlook⟩:=hseg
 obtain ⟨plan,St,hS0,hK,hplan⟩:=asteps_plan (ro:=ro) hok ((ops.toList.drop q).take (p - q)) q s (fun k hk=>by
  simp at hk
  rw [List.getElem?_take_of_lt (by omega),List.getElem?_drop,Array.getElem?_toList]) h
 have hlen:((ops.toList.drop q).take (p - q)).length=p - q:=by simp; omega
 rw [hlen] at hK hplan
 have hqpp:q+(p - q)=p:=by omega
 rw [hqpp] at hK
 have hdis':∀ i k,q≤i→i<p→q≤k→k<p→k≠i→∀ d,dstOf ops i=some d→dstOf ops k≠some d:=fun i k hqi hi hqk hk hki d hdi=>by
  have:=((hdis i hi).resolve_left (by omega) k hk).resolve_left (by omega);rw [hdi] at this;simp only [beq_iff_eq,bne_iff_ne] at this;exact this.resolve_left fun e=>hki e.symm
 have hplan':∀ i,q≤i→i<p→∃ o,ops[i]?=some o∧PureAt P ro N ops i o (plan i) (St i)∧((St i).put o.dst (plan i)).eqv (St (i+1)):=fun i hqi hi=>by
  have:=hplan (i - q) (by omega);rw [show q+(i - q)=i by omega] at this;exact this
 have hJ:∀ j,q≤j→j≤p→JQ ops q p plan (St q) (fun i=>q≤i∧i<j) (St j):=by
  intro j hqj;obtain ⟨d,rfl⟩:∃ d,j=q+d:=⟨j - q,by omega⟩;clear hqj
  induction d with
  | zero=>exact fun _=>⟨rfl,fun _ _ _ _ hx=>by omega,fun _ _=>rfl⟩
  | succ d ih =>
   intro hj;obtain ⟨o,ho,_,he⟩:=hplan' (q+d) (by omega) (by omega);exact (ih (by omega)).step ho (by omega) (by omega) (fun k hqk hk hkj=>hdis' (q+d) k (by omega) (by omega) hqk hk hkj) (fun k=>by omega) he
 intro w0 μ0
 have main:∀ (fuel:Nat) (listed:Array Bool) (s1:AS) (μ1:Mu) (a1:Act) (w1:World),listed.size=ops.size→cnt listed≤fuel→(∀ i,i<ops.size→listed.getD i false=true→∀ k∈da ops i,listed.getD k false=true) →
   (∀ i,i<q→listed.getD i false=true)→(∀ i,p≤i→i<ops.size→listed.getD i false=false)→JQ ops q p plan (St q) (fun i=>listed.getD i false=true) s1→SRel ro N w0.heap.size μ1 s1 a1 w1→Evo w0 μ0 w1 μ1 →
   wpAnyIn (fence ro) 0 P .any ops (Post ro N Q w0 μ0) fuel listed a1 w1:=by
  intro fuel
  have fin:∀ (fuel:Nat) (listed:Array Bool) (s1:AS) (μ1:Mu) (a1:Act) (w1:World),listed.size=ops.size→cnt listed≤fuel→(∀ i,i<p→listed.getD i false=true) →
    (∀ i,p≤i→i<ops.size→listed.getD i false=false)→JQ ops q p plan (St q) (fun i=>listed.getD i false=true) s1→SRel ro N w0.heap.size μ1 s1 a1 w1→Evo w0 μ0 w1 μ1 →
    wpAnyIn (fence ro) 0 P .any ops (Post ro N Q w0 μ0) fuel listed a1 w1:=by
   intro fuel listed s1 μ1 a1 w1 hl hc hall htl hj hs1 hE1
   have heq:s1.eqv (St p):=by
    have hp1:=hJ p hqp (Nat.le_refl _);refine ⟨hp1.1.trans hj.1.symm,fun t=>?_⟩;by_cases hx:∃ i,q≤i∧i<p∧dstOf ops i=some t
    ·obtain ⟨i,hqi,hi,hdi⟩:=hx
     rw [hp1.2.1 i t hqi hi ⟨hqi,hi⟩ hdi,hj.2.1 i t hqi hi (hall i hi) hdi]
    rw [hp1.2.2 t (fun i hqi hi _ hdi=>hx ⟨i,hqi,hi,hdi⟩),hj.2.2 t (fun i hqi hi _ hdi=>hx ⟨i,hqi,hi,hdi⟩)]
   refine htail _ hK w0 μ0 fuel listed μ1 a1 w1 hl hc (fun i hi=>?_) (hs1.eqv heq) hE1;by_cases hip:i<p
   ·rw [hall i hip]; simp [hip]
   rw [htl i (by omega) hi]; simp [hip]
  induction fuel with
  | zero =>
   intro listed s1 μ1 a1 w1 hl hc hcl hold htl hj hs1 hE1;refine fin 0 listed s1 μ1 a1 w1 hl hc (fun i hi=>?_) htl hj hs1 hE1
   cases hh:listed.getD i false with
   | true=>rfl
   | false =>
    have:=cnt_pos (listed:=listed) (i:=i) (by rw [getD_tf (by omega)]; exact hh);omega
  | succ fuel ih =>
   intro listed s1 μ1 a1 w1 hl hc hcl hold htl hj hs1 hE1;by_cases hall:∀ i,i<p→listed.getD i false=true
   ·exact fin (fuel+1) listed s1 μ1 a1 w1 hl hc hall htl hj hs1 hE1
   refine ⟨fun hr=>?_,fun i hi=>?_⟩
   ·exfalso
    obtain ⟨j,⟨hjp,hjl⟩,hmin⟩:=least (fun j=>j<p∧listed.getD j false=false) (by
     refine Classical.byContradiction fun hno=>hall fun i hi=>?_
     cases hh:listed.getD i false with
     | true=>rfl
     | false=>exact absurd ⟨i,hi,hh⟩ hno)
    have:=ready_of hda' hl (by omega:j<ops.size) hjl fun k hk=>by
     cases hh:listed.getD k false with
     | true=>rfl
     | false=>have:=hmin k ⟨by omega,hh⟩; omega
    rw [hr] at this;cases this
   have hdone:=deps_done hi;obtain ⟨h0,o,ho,hwait⟩:=mem_ready.1 hi;have his:=(Array.getElem?_eq_some_iff.1 ho).1
   have hil:listed.getD i false=false:=by rw [← getD_tf (by omega)]; exact h0
   have hqi:q≤i:=by
    rcases Nat.lt_or_ge i q with h | h
    ·have:=hold i h; rw [hil] at this; cases this
    exact h
   have hip:i<p:=by
    rcases Nat.lt_or_ge i p with h | h
    ·exact h
    exfalso;refine hall fun k hk=>?_
    rcases Nat.lt_or_ge k q with hkq | hkq
    ·exact hold k hkq
    refine clos_ind (fun k=>listed.getD k false=true) hdone (fun k hki hkl m hm=>?_) k (hchain i h his k hkq hk);exact hcl k (by omega) hkl m hm
   obtain ⟨o',ho',hpure,_⟩:=hplan' i hqi hip;rw [ho] at ho';cases ho';have hSi:=hJ i hqi (by omega)
   have hagree:∀ t∈o.looksAt ops,sget s1.slots t=sget (St i).slots t:=by
    intro t ht;by_cases hx:∃ k,q≤k∧k<p∧dstOf ops k=some t
    ·obtain ⟨k,hqk,hk,hdk⟩:=hx
     have hc2:=((hlook i hip).resolve_left (by omega) k hk).resolve_left (by omega);rw [hdk,ho] at hc2;simp only [Bool.or_eq_true,Bool.not_eq_true',List.contains_eq_mem,decide_eq_false_iff_not] at hc2;have hc3:=hc2.resolve_left (fun hn=>hn ht);by_cases hki:k<i
     ·rw [if_pos hki] at hc3
      have hkd:k∈da ops i:=by simpa using hc3
      rw [hSi.2.1 k t hqk hk ⟨hqk,hki⟩ hdk,hj.2.1 k t hqk hk (hdone k hkd) hdk]
     rw [if_neg hki] at hc3
     have hkn:listed.getD k false=false:=by
      rcases (by simpa using hc3:k=i∨i∈da ops k) with e | hik
      ·rw [e]; exact hil
      cases hh:listed.getD k false with
      | false=>rfl
      | true =>
       have:=hcl k (by omega) hh i hik;rw [hil] at this;cases this
     rw [hSi.2.2 t (fun m hqm hm hmi hdm=>?_),hj.2.2 t (fun m hqm hm hml hdm=>?_)]
     ·by_cases hmk:m=k
      ·subst hmk
       have hml':listed.getD m false=true:=hml;rw [hkn] at hml';cases hml'
      exact hdis' k m hqk hk hqm hm hmk t hdk hdm
     by_cases hmk:m=k
     ·subst hmk; omega
     exact hdis' k m hqk hk hqm hm hmk t hdk hdm
    rw [hSi.2.2 t (fun m hqm hm _ hdm=>hx ⟨m,hqm,hm,hdm⟩),hj.2.2 t (fun m hqm hm _ hdm=>hx ⟨m,hqm,hm,hdm⟩)]
   refine hpure s1 (hj.1.trans hSi.1.symm) hagree (fun s2=>s2=s1.put o.dst (plan i)) rfl w0 μ0 μ1 a1 w1 _ _ hs1 hE1 ?_
   rintro μ2 s2 a2 w2 rfl hs2 hE2
   have hset:∀ k,(listed.setIfInBounds i true).getD k false=true↔listed.getD k false=true∨k=i:=fun k=>by
    by_cases hki:i=k
    ·subst hki
     have:i<listed.size:=by omega
     simp [this]
    rw [getD_set_ne false hki];exact ⟨.inl,fun h=>h.resolve_right fun e=>hki e.symm⟩
   have hcnt:=cnt_set (listed:=listed) (i:=i) h0;refine ih (listed.setIfInBounds i true) _ μ2 a2 w2 (by simp [hl]) (by omega) (fun j hj hlj k hk=>?_) (fun j hjq=>(hset j).2 (.inl (hold j hjq))) (fun j hpj hjs=>?_) (hj.step ho hqi hip (fun k hqk hk hki=>hdis' i k hqi hip hqk hk hki) (fun k=>hset k) (AS.eqv.refl _)) hs2 hE2
   ·rcases (hset j).1 hlj with h | rfl
    ·exact (hset k).2 (.inl (hcl j hj h k hk))
    exact (hset k).2 (.inl (hdone k hk))
   cases hh:(listed.setIfInBounds i true).getD j false with
   | false=>rfl
   | true =>
    rcases (hset j).1 hh with h | h
    ·rw [htl j hpj hjs] at h; cases h
    omega
 intro fuel listed μ1 a1 w1 hl hc hlist hs hE;have hs':SRel ro N w0.heap.size μ1 (St q) a1 w1:=hs.eqv hS0;refine main fuel listed (St q) μ1 a1 w1 hl hc (fun i hi hli k hk=>?_) (fun i hi=>?_) (fun i hpi hi=>?_) ⟨rfl,fun i t hqi hi hli=>?_,fun t _=>rfl⟩ hs' hE
 ·have hki:=hda' i hi k hk
  rw [hlist i hi] at hli;rw [hlist k (by omega)];simp at hli ⊢;omega
 ·rw [hlist i (by omega)]; simp [hi]
 ·rw [hlist i hi]; simp; omega
 have hli':listed.getD i false=true:=hli;rw [hlist i (by omega)] at hli';simp at hli';omega
theorem AW.any {id:Nat} {ops:Array Oper} {Q:Exit→AS→Prop} (hm:P.follows .mixedOrders=true) (h:AnyAt P ro N ops Q 0 s):AW P ro N (.region id ops true) Q s:=by
 intro w0 μ0 μ a w hs hE;refine wpIn_region_any hm ?_;have g:=Grow.drew1 w (w.drawn+1);have hE':=Evo.grow hs.sr g
 have hs':SRel ro N w0.heap.size μ s a { w with drawn:=w.drawn+1 } :=
  ⟨hs.size,hs.sr.grow g,fun t hv ht=>⟨(hs.slot t hv ht).1,Rep.evo hE' hs.sr.ok _ _ (hs.slot t hv ht).2⟩,hs.marks.evo hE',hs.ro.evo hE'⟩
 exact h w0 μ0 ops.size (Array.replicate ops.size false) μ a _ (by simp) (by simp [cnt]) (fun i hi=>by simp [hi]) hs' (hE.trans hE')
end
section
mutual
def nf:HV→Bool
 | .agg cs | .tup cs=>nfL cs
 | .fn _ fs cs=>nfL fs && nfL cs
 | .sl _ _ _ | .fptr _ _=>false
 | _=>true
def nfL:List HV→Bool
 | []=>true
 | c::cs=>nf c && nfL cs
end
def nfE:List (List UInt8 × HV)→Bool
 | []=>true
 | (_,h)::l=>nf h && nfE l
def nfO:AObj→Bool
 | .arr _ _ cs=>nfL cs
 | .map es=>nfE es
 | .iter _ _ _ _=>true
 | .loop _ _ _ _ _ _ _ _=>false
 | .kmap _=>true
 | .gmap es _=>nfL (es.map (·.2))
def nfH:Heap→Bool
 | []=>true
 | (_,_,o)::l=>nfO o && nfH l
section
variable {w:World} {μ μ':Mu}
theorem Mu.dead_of (hl:μ'.loc=μ.loc) (hn:μ'.nx=μ.nx) {id ver:Nat} (h:μ.dead id ver):μ'.dead id ver:=by
 unfold Mu.dead at h ⊢;rw [hl,hn]; exact h
mutual
theorem Rep.nf (hl:μ'.loc=μ.loc) (hn:μ'.nx=μ.nx):∀ (hv:HV) (val:Value),AW.nf hv=true→Rep w μ hv val→Rep w μ' hv val
 | .int _ _,_,_,h=>h
 | .bool _,_,_,h=>h
 | .str _,_,_,h=>h
 | .v _,_,_,h=>h
 | .agg cs,_,hc,⟨h1,vs,e,h⟩=>⟨h1,vs,e,RepL.nf hl hn cs vs hc h⟩
 | .tup cs,_,hc,⟨vs,e,h⟩=>⟨vs,e,RepL.nf hl hn cs vs hc h⟩
 | .sl _ _ _,_,hc,_=>by cases hc
 | .fptr _ _,_,hc,_=>by cases hc
 | .fn _ fs cs,_,hc,⟨us,vs,e,h1,h2⟩=>by
  simp only [AW.nf,Bool.and_eq_true] at hc;exact ⟨us,vs,e,RepL.nf hl hn fs us hc.1 h1,RepL.nf hl hn cs vs hc.2 h2⟩
 | .ar _ _ _ _ _,_,_,h=>by
  rcases h with ⟨l,h1,h2⟩ | ⟨hd,h⟩
  ·exact .inl ⟨l,by rw [hl]; exact h1,h2⟩
  exact .inr ⟨Mu.dead_of hl hn hd,h⟩
 | .ptr _ _ _,_,_,h=>by
  rcases h with ⟨l,h1,h2⟩ | ⟨hd,h⟩
  ·exact .inl ⟨l,by rw [hl]; exact h1,h2⟩
  exact .inr ⟨Mu.dead_of hl hn hd,h⟩
 | .mp _ _,_,_,h=>by
  rcases h with ⟨l,h1,h2⟩ | ⟨hd,h⟩
  ·exact .inl ⟨l,by rw [hl]; exact h1,h2⟩
  exact .inr ⟨Mu.dead_of hl hn hd,h⟩
 | .yl _ _,_,_,h=>by
  rcases h with ⟨l,h1,h2⟩ | ⟨hd,h⟩
  ·exact .inl ⟨l,by rw [hl]; exact h1,h2⟩
  exact .inr ⟨Mu.dead_of hl hn hd,h⟩
 | .it _ _,_,_,h=>by
  rcases h with ⟨l,h1,h2⟩ | ⟨hd,h⟩
  ·exact .inl ⟨l,by rw [hl]; exact h1,h2⟩
  exact .inr ⟨Mu.dead_of hl hn hd,h⟩
theorem RepL.nf (hl:μ'.loc=μ.loc) (hn:μ'.nx=μ.nx):∀ (cs:List HV) (vs:List Value),nfL cs=true→RepL w μ cs vs→RepL w μ' cs vs
 | [],_,_,h=>h
 | c::cs,_,hc,⟨x,xs,e,h1,h2⟩=>by
  simp only [nfL,Bool.and_eq_true] at hc;exact ⟨x,xs,e,Rep.nf hl hn c x hc.1 h1,RepL.nf hl hn cs xs hc.2 h2⟩
end
theorem nfE_map:∀ {es:List (List UInt8 × HV)},nfE es=true→nfL (es.map (·.2))=true
 | [],_=>rfl
 | (_,h)::es,hh=>by
  simp only [nfE,Bool.and_eq_true] at hh;simp only [List.map_cons,nfL,hh.1,nfE_map hh.2,Bool.and_self]
theorem OR.nf (hl:μ'.loc=μ.loc) (hn:μ'.nx=μ.nx) {o:AObj} (hc:nfO o=true) {l:Option Nat} (h:OR w μ o l):OR w μ' o l:=by
 cases l with
 | none=>cases o <;> exact h
 | some b =>
  cases o with
  | arr k e cs =>
   obtain ⟨h0,cur,vs,rest,h1,h2,h3⟩:=h;exact ⟨h0,cur,vs,rest,h1,h2,RepL.nf hl hn _ _ hc h3⟩
  | map es =>
   obtain ⟨ents,clock,h1,h2,h3,h4,h5⟩:=h;exact ⟨ents,clock,h1,h2,RepL.nf hl hn _ _ (nfE_map hc) h3,h4,h5⟩
  | iter mid mver seen cur =>
   obtain ⟨h0,mb,since,sn,last,h1,h2⟩:=h;refine ⟨by rw [hn]; exact h0,mb,since,sn,last,h1,fun l hl'=>h2 l (by rw [← hl]; exact hl')⟩
  | loop st pend f n snap ps assign body=>cases hc
  | kmap es=>exact h
  | gmap es pe =>
   obtain ⟨ents,clock,h1,h2,h3,h4⟩:=h;exact ⟨ents,clock,h1,h2,RepL.nf hl hn _ _ hc h3,h4⟩
theorem nfH_get:∀ {H:Heap},nfH H=true→∀ {id v:Nat} {o:AObj},hget H id=some (v,o)→nfO o=true
 | [],_,_,_,_,h=>by cases h
 | (i,w,p)::H,hn,id,v,o,h=>by
  simp only [nfH,Bool.and_eq_true] at hn;simp only [hget] at h;split at h
  ·cases h; exact hn.1
  exact nfH_get hn.2 h
end
theorem ACall.lend {P:Program} {f:FuncId} {args:List HV} {H:Heap} {K:HV→Heap→Prop} {q:HV} (n m:Nat) (hp:ACall P f (args.map (frz n H)) [] K)
  (hK:∀ r H',K r H'→nf r=true∧nfH H'=true∧frz m H' r=q) (hq:clean q):ACallD P f args H q:=by
 refine ⟨hp.1,fun μ w vs hs hr hgl=>?_⟩;have hfr:RepL w (μ.cut []) (args.map (frz n H)) vs:=RepL.mapF (fun c x _=>frz_rep (H':=[]) hs (fun id x h=>⟨h,rfl⟩) n c x) hr
 have h0:SR w (μ.cut []) []:=hs.sub fun _ _ h=>by cases h
 have hno:∀ b,¬ (μ.cut []).owned b:=fun b ⟨id,ver,hl⟩=>by simp [Mu.cut,hget] at hl
 refine (hp.2 (μ.cut []) w vs h0 hfr (hgl.less fun b ⟨id,ver,hl⟩=>⟨id,ver,Mu.cut_some hl⟩)).mono ?_
 rintro e w' ⟨v,r,H1,μ1,rfl,hk,hs1,hr1,E⟩
 obtain ⟨hnf,hnfH,rfl⟩:=hK r H1 hk;have g:Grow w w':=⟨⟨E.os,E.tape,E.output,E.drawn⟩,E.size,fun b hb=>E.keep b hb (hno b)⟩;have hsg:=hs.grow g;have hEg:=Evo.grow hs g;refine ⟨v,frz m H1 r,H,{ nx:=max μ.nx μ1.nx,loc:=μ.loc,held:=μ.held },rfl,⟨rfl,rfl⟩,?_,?_,?_⟩
 ·refine ⟨fun id ver b h=>Nat.lt_of_lt_of_le (hsg.ok id ver b h) (Nat.le_max_left _ _),fun id ver o ho=>?_,hsg.only,hsg.inj,hsg.held⟩
  obtain ⟨l,hl,hor⟩:=hsg.has id ver o ho;refine ⟨l,hl,hor.evo (μ':={ nx:=max μ.nx μ1.nx,loc:=μ.loc,held:=μ.held }) ?_ hsg.ok (fun _ _=>rfl) (fun _ _ _ _ _ _ _ _=>rfl)⟩;exact ⟨rfl,rfl,rfl,Nat.le_refl _,Nat.le_refl _,Nat.le_max_left _ _,fun _ _ _=>rfl,fun _ _ _ h _=>h,fun _ _ _ _ _ cur _ h=>⟨cur,h,rfl⟩,fun id ver _ h _=>⟨id,ver,h⟩,rfl⟩
 ·-- the result's blocks are new
  let μ2:Mu:={ nx:=μ1.nx,loc:=μ1.loc,held:=fun b=>b<w.heap.size }
  have hs2:SR w' μ2 H1:=by
   refine ⟨hs1.ok,fun id ver o ho=>?_,hs1.only,hs1.inj,fun b hb=>⟨Nat.lt_of_lt_of_le hb E.size,fun ⟨id,ver,hl⟩=>?_⟩⟩
   ·obtain ⟨l,hl,hor⟩:=hs1.has id ver o ho
    exact ⟨l,hl,OR.nf (μ:=μ1) (μ':=μ2) rfl rfl (nfH_get hnfH ho) hor⟩
   exact hno b (E.own id ver b hl hb)
  have h3:=frz_rep (D:=H1) (H':=[]) hs2 (fun id x h=>⟨h,rfl⟩) m r v (Rep.nf (μ:=μ1) (μ':=μ2) rfl rfl r v hnf hr1);refine Rep.clean (fun b hb=>?_) _ v hq h3;right;show b<w.heap.size;exact hb.elim (fun ⟨_,_,hl⟩=>hs.blk hl) (fun h=>(hs.held b h).1)
 exact hEg.trans ⟨rfl,rfl,rfl,Nat.le_refl _,Nat.le_refl _,Nat.le_max_left _ _,fun _ _ _=>rfl,fun _ _ _ h _=>h,fun _ _ _ _ _ cur _ h=>⟨cur,h,rfl⟩,fun id ver _ h _=>⟨id,ver,h⟩,rfl⟩
def Fresh (P:Program) (f:FuncId) (args:List HV) (q:HV):Prop:=clean q∧∃ (K:HV→Heap→Prop) (m:Nat),ACall P f args [] K∧∀ r H',K r H'→nf r=true∧nfH H'=true∧frz m H' r=q
theorem Fresh.callD {P:Program} {f:FuncId} {args as':List HV} {H:Heap} {q:HV} (n:Nat) (h:Fresh P f as' q) (ha:args.map (frz n H)=as'):ACallD P f args H q:=by
 obtain ⟨hq,K,m,hp,hK⟩:=h;subst ha;exact ACall.lend n m hp hK hq
theorem Fresh.call {P:Program} {f:FuncId} {args as':List HV} {H:Heap} {q:HV} {K:HV→Heap→Prop} (n:Nat) (h:Fresh P f as' q) (ha:args.map (frz n H)=as') (hk:K q H):ACall P f args H K :=
 ACall.mono (h.callD n ha) fun _ _ ⟨h1,h2⟩=>by rw [h1,h2]; exact hk
theorem frz_nf (m:Nat):∀ (h:HV),clean h→nf h=true→frz m [] h=h:=by
 induction m with
 | zero=>intro h _ _; rfl
 | succ m ih =>
  have ihL:∀ cs:List HV,cleanL cs→nfL cs=true→cs.map (frz m [])=cs:=by
   intro cs
   induction cs with
   | nil=>intros; rfl
   | cons c cs ihc =>
    intro hc hn;simp only [nfL,Bool.and_eq_true] at hn;simp only [List.map_cons,ih c hc.1 hn.1,ihc hc.2 hn.2]
  intro h hc hn
  cases h with
  | agg cs=>simp only [frz,ihL cs hc hn]
  | tup cs=>simp only [frz,ihL cs hc hn]
  | fn f fs cs =>
   simp only [AW.nf,Bool.and_eq_true] at hn;simp only [frz,ihL fs hc.1 hn.1,ihL cs hc.2 hn.2]
  | ar _ _ _ _ _=>exact hc.elim
  | ptr _ _ _=>exact hc.elim
  | _=>rfl
theorem Pure.fresh {P:Program} {f:FuncId} {args:List HV} {q:HV} (h:Pure P f args (· = q)) (hc:clean q) (hn:nf q=true):Fresh P f args q :=
 ⟨hc,_,1,h,fun r H' ⟨h1,_,h3⟩=>by subst h1 h3; exact ⟨hn,rfl,frz_nf 1 r hc hn⟩⟩
theorem Fresh.pure {P:Program} {f:FuncId} {args:List HV} {q:HV} (h:Fresh P f args q):Pure P f args (· = q):=by
 obtain ⟨hq,K,m,hp,hK⟩:=h;refine ⟨hp.1,fun μ w vs hs hr hgl=>(hp.2 μ w vs hs hr hgl).mono ?_⟩
 rintro e w' ⟨v,r,H',μ',he,k,hs',hr',E⟩
 obtain ⟨_,_,h3⟩:=hK r H' k;obtain ⟨μ2,h4,h5,h6⟩:=Conv.all (r0:=r) m w' μ' v hs' hr';exact ⟨v,_,[],μ2,he,⟨h3,h3 ▸ hq,rfl⟩,h4,h5,E.trans h6⟩
theorem Fresh.of_body {P:Program} {f:FuncId} {fn:Func} {c:Code} {args:List HV} {q:HV} (m:Nat) (hf:P.funcs[f]?=some fn) (hname:(fn.name == "runtime.NumGoroutine")=false)
  (hb:fn.body=some c) (hN:args.length≤fn.ntmps) (hq:clean q)
  (h:factL args→AW P none fn.ntmps c (retQ P fn.results.toList fun r H'=>nf r=true∧nfH H'=true∧frz m H' r=q) { slots:=enumS 0 args,heap:=[] }):Fresh P f args q :=
 ⟨hq,_,m,ACall.facts (enters' hf hname hb) fun hfact=>ACall.of_body hf hname hb hN (h hfact),fun _ _ h=>h⟩
end
def tget:List (Nat × Nat)→Nat→Option Nat
 | [],_=>none
 | (i,d)::l,j=>if j=i then some d else tget l j
def aopsD (P:Program) (fid:Nat) (mt:List Nat) (tab:List (Nat × Nat)):List Oper→(AS→Prop)→AS→Prop
 | [],K,s=>K s
 | o::rest,K,s=>match o.guard with
  | none=>aop P fid mt o (aopsD P fid mt tab rest K) s
  | some (j,want)=>match tget tab j with
   | some d=>match sget s.slots d with
    | some (.bool b)=>if b=want then aop P fid mt o (aopsD P fid mt tab rest K) (s.put (some d) (.bool want))
      else aopsD P fid mt tab rest K ((s.put (some d) (.bool !want)).put o.dst (.v undef))
    | some (.v x)=>x=undef∧aopsD P fid mt tab rest K (s.put o.dst (.v undef))
    | _=>False
   | none=>False
section
variable {P:Program} {ro:Option Nat} {N:Nat} {s:AS} {fid:Nat} {mt:List Nat} {Q:Exit→AS→Prop}
theorem AOps.guardU {ops:Array Oper} {K:AS→Prop} {i j d:Nat} {is:List Nat} {o oj:Oper} {want:Bool} (ho:ops[i]?=some o) (hN:okd N o.dst=true) (hg:o.guard=some (j,want)) (hj:ops[j]?=some oj) (hd:oj.dst=some d)
  (hb:sget s.slots d=some (.v undef)) (h2:AOps P ro N ops is K (s.put o.dst (.v undef))):AOps P ro N ops (i::is) K s:=by
 intro w0 μ0 μ a w Q hs hE hK;obtain ⟨hdN,hbv⟩:=hs.slot d _ hb
 have hy:yielded ops a.tmps j=none:=by
  have hlt:d<a.tmps.size:=by rw [hs.size]; exact hdN
  have hv:a.tmps[d]?=some undef:=by
   have hbv':a.tmps.getD d undef=undef:=hbv;rw [Array.getD_eq_getD_getElem?,Array.getElem?_eq_getElem hlt] at hbv';rw [Array.getElem?_eq_getElem hlt]
   simpa using hbv'
  simp [yielded,hj,hd,hv,undef]
 simp only [wpOpsIn,ho,Region.wanted,hg,hy];have:((none:Option Bool) == some want)=false:=rfl;simp only [this,Bool.false_eq_true,if_false];refine ⟨fun _ _=>trivial,?_⟩;have hru:Rep w μ (.v undef) undef:=rfl;have hs2:=hs.put (Evo.refl w μ) hs.sr hN hru;exact h2 w0 μ0 μ _ w Q hs2 hE hK
end
attribute [go_sem] aopsD tget
inductive Stp (S X:Type) where
 | next (s:S)
 | exit (x:X)
def iter {S X:Type} (body:S→Option (Stp S X)):Nat→S→Option X
 | 0,_=>none
 | n+1,s=>match body s with
  | some (.next s')=>iter body n s'
  | some (.exit x)=>some x
  | none=>none
open Classical in
noncomputable def loopW {S X:Type} (body:S→Option (Stp S X)) (s:S):Option X :=
 if h:∃ x n,iter body n s=some x then some (Classical.choose h) else none
section
variable {S X:Type} {body:S→Option (Stp S X)} {s:S} {x:X}
theorem loopW_some (h:loopW body s=some x):∃ n,iter body n s=some x:=by
 unfold loopW at h;split at h
 ·rename_i hx
  cases h;exact Classical.choose_spec hx
 cases h
theorem iter_det:∀ {n m:Nat} {s:S} {x y:X},iter body n s=some x→iter body m s=some y→x=y
 | 0,_,_,_,_,h,_=>by cases h
 | _+1,0,_,_,_,_,h=>by cases h
 | n+1,m+1,s,x,y,h,h'=>by
  simp only [iter] at h h';split at h
  ·rename_i s' hs
   rw [hs] at h';exact iter_det h h'
  ·rename_i z hs
   rw [hs] at h';cases h; cases h'; rfl
  cases h
theorem loopW_of {n:Nat} (h:iter body n s=some x):loopW body s=some x:=by
 unfold loopW;have hx:∃ x n,iter body n s=some x:=⟨x,n,h⟩;rw [dif_pos hx];obtain ⟨m,hm⟩:=Classical.choose_spec hx;exact congrArg some (iter_det hm h)
theorem loopW_exit (h:body s=some (.exit x)):loopW body s=some x:=loopW_of (n:=1) (by simp only [iter,h])
theorem loopW_next {s':S} (h:body s=some (.next s')):loopW body s=loopW body s':=by
 by_cases hx:∃ x,loopW body s'=some x
 ·obtain ⟨x,hx⟩:=hx
  obtain ⟨n,hn⟩:=loopW_some hx;rw [hx];exact loopW_of (n:=n+1) (by simp only [iter,h]; exact hn)
 have h2:loopW body s'=none:=by
  cases h':loopW body s' with
  | none=>rfl
  | some x=>exact absurd ⟨x,h'⟩ hx
 rw [h2]
 cases h3:loopW body s with
 | none=>rfl
 | some x =>
  obtain ⟨n,hn⟩:=loopW_some h3
  cases n with
  | zero=>cases hn
  | succ n =>
   simp only [iter,h] at hn;rw [loopW_of hn] at h2;cases h2
theorem loopW_stuck (h:body s=none):loopW body s=none:=by
 cases h3:loopW body s with
 | none=>rfl
 | some x =>
  obtain ⟨n,hn⟩:=loopW_some h3
  cases n with
  | zero=>cases hn
  | succ n=>simp only [iter,h] at hn; cases hn
end
def AS.to (s:AS) (G:AS→Prop):Prop:=∀ (ro:Option Nat) (N B:Nat) (μ:Mu) (a:Act) (w:World),SRel ro N B μ s a w→∃ μ' s',G s'∧SRel ro N B μ' s' a w∧Evo w μ w μ'
theorem to_refl {s:AS} {G:AS→Prop} (h:G s):s.to G:=fun _ _ _ μ _ w hs=>⟨μ,s,h,hs,Evo.refl w μ⟩
theorem to_le {s s':AS} {G:AS→Prop} (hl:s.le s') (h:G s'):s.to G:=fun _ _ _ μ _ w hs=>⟨μ.cut s'.heap,s',h,hs.weaken hl,Evo.cut w μ s'.heap⟩
theorem to_bind {s:AS} {G:AS→Prop} (h:s.to fun t=>t.to G):s.to G:=fun ro N B μ a w hs=>by
 obtain ⟨μ1,t,ht,hs1,E1⟩:=h ro N B μ a w hs;obtain ⟨μ2,u,hu,hs2,E2⟩:=ht ro N B μ1 a w hs1;exact ⟨μ2,u,hu,hs2,E1.trans E2⟩
theorem to_mono {s:AS} {G G':AS→Prop} (h:s.to G) (hg:∀ t,G t→G' t):s.to G':=fun ro N B μ a w hs=>by
 obtain ⟨μ1,t,ht,hs1,E1⟩:=h ro N B μ a w hs;exact ⟨μ1,t,hg t ht,hs1,E1⟩
section
variable {P:Program} {ro:Option Nat} {N:Nat} {Q:Exit→AS→Prop} {s:AS}
theorem AW.to {c:Code} (h:s.to (AW P ro N c Q)):AW P ro N c Q s:=by
 intro w0 μ0 μ a w hs hE;obtain ⟨μ1,t,ht,hs1,E1⟩:=h ro N w0.heap.size μ a w hs;exact ht w0 μ0 μ1 a w hs1 (hE.trans E1)
open Classical in
theorem AW.loopT {c:Code} (I:Nat→AS→Prop) (h0:s.to fun t=>∃ n,I n t)
  (round:∀ n s,I n s→AW P ro N c (thenQ (fun s'=>s'.to fun t=>∃ n',n'<n∧I n' t) Q) s):AW P ro N (.loop c) Q s:=by
 refine AW.to (to_mono h0 fun s hI=>?_);intro w0 μ0 μ a w hs hE;let R:Act→World→Nat→Prop:=fun a w n=>∃ μ s,I n s∧SRel ro N w0.heap.size μ s a w∧Evo w0 μ0 w μ
 let meas:Act→World→Nat:=fun a w=>if h:∃ n,R a w n then Classical.choose (least _ h) else 0
 obtain ⟨n0,hI⟩:=hI;refine wpIn_loop (fun a w=>∃ n,R a w n) meas ⟨n0,μ,s,hI,hs,hE⟩ ?_;intro a w hex
 have hmin:R a w (meas a w):=by
  show R a w (if h:∃ n,R a w n then Classical.choose (least _ h) else 0);rw [dif_pos hex];exact (Classical.choose_spec (least _ hex)).1
 obtain ⟨μ1,s1,hI,hs1,hE1⟩:=hmin;refine wpIn_mono (round _ s1 hI w0 μ0 μ1 a w hs1 hE1) ?_
 rintro e a' w' ⟨h1,h2,μ',s',h3,h4,h5⟩
 cases e with
 | normal =>
  obtain ⟨μ2,t,⟨n',hlt,hI2⟩,hs2,E2⟩:=h3 _ _ _ _ _ _ h4;have hR:R a' w' n':=⟨μ2,t,hI2,hs2,h5.trans E2⟩;refine ⟨⟨_,hR⟩,?_⟩
  have hle:meas a' w'≤n':=by
   show (if h:∃ n,R a' w' n then Classical.choose (least _ h) else 0)≤n';rw [dif_pos ⟨_,hR⟩];exact (Classical.choose_spec (least _ ⟨_,hR⟩)).2 _ hR
  omega
 | exit id=>exact ⟨h1,h2,μ',s',h3,h4,h5⟩
 | goto l=>exact ⟨h1,h2,μ',s',h3,h4,h5⟩
 | ret=>exact ⟨h1,h2,μ',s',h3,h4,h5⟩
 | panic ch=>exact absurd rfl (h1 ch)
 | outgrown=>exact absurd rfl h2
theorem AW.loopR {S X V:Type} {c:Code} {body:S→Option (Stp S X)} (St:S→V→AS) {s0:S} {x:X} (hx:Go.AW.loopW body s0=some x) (h0:s.to fun t=>∃ v,t=St s0 v)
  (round:∀ a v st,body a=some st→(∀ y,st=.exit y→y=x)→AW P ro N c (thenQ (fun s'=>s'.to fun t=>∃ b v',st=.next b∧t=St b v') Q) (St a v)):AW P ro N (.loop c) Q s:=by
 obtain ⟨n,hn⟩:=loopW_some hx;refine AW.loopT (fun k s=>∃ a v,iter body k a=some x∧s=St a v) (to_mono h0 fun t ⟨v,e⟩=>⟨n,s0,v,hn,e⟩) ?_
 rintro k _ ⟨a,v,hk,rfl⟩
 cases k with
 | zero=>cases hk
 | succ k =>
  simp only [iter] at hk;split at hk
  ·rename_i a' hb
   refine (round a v _ hb (fun y e=>by cases e)).mono ?_
   rintro e s' h
   cases e with
   | normal =>
    refine to_mono h fun t ⟨b,v',he,hl⟩=>?_;cases he;exact ⟨k,Nat.lt_succ_self k,a',v',hk,hl⟩
   | exit id=>exact h
   | goto l=>exact h
   | ret=>exact h
   | panic ch=>exact h
   | outgrown=>exact h
  ·rename_i y hb
   cases hk;refine (round a v _ hb (fun z e=>by cases e; rfl)).mono ?_
   rintro e s' h
   cases e with
   | normal=>exact to_mono h fun t ⟨b,v',he,hl⟩=>by cases he
   | exit id=>exact h
   | goto l=>exact h
   | ret=>exact h
   | panic ch=>exact h
   | outgrown=>exact h
  cases hk
end
structure EncL (α:Type) where
 k:Nat
 C:α→List HV
 E:List α→List HV
 hE:∀ l,E l=l.flatMap C
 hk:∀ x,(C x).length=k
def encM {α:Type} (f:α→HV):EncL α:=⟨1,fun x=>[f x],fun l=>l.map f,fun l=>by induction l with
 | nil=>rfl
 | cons a l ih=>rw [List.map_cons,List.flatMap_cons,ih]; rfl,fun _=>rfl⟩
def encF {α:Type} (k:Nat) (C:α→List HV) (hk:∀ x,(C x).length=k):EncL α:=⟨k,C,fun l=>l.flatMap C,fun _=>rfl,hk⟩
def slE {α:Type} (c:EncL α) (l:List α):HV:=.sl c.k l.length (c.E l)
def idx {α:Type} (l:List α) (j:Int):Option α:=if 0≤j then l[j.toNat]? else none
theorem idx_lt {α:Type} {l:List α} {j:Int} {x:α} (h:idx l j=some x):0≤j∧j<l.length:=by
 unfold idx at h;split at h
 ·rename_i h0
  have:=(List.getElem?_eq_some_iff.1 h).1;exact ⟨h0,by omega⟩
 cases h
theorem idx_get {α:Type} {l:List α} {j:Int} {x:α} (h:idx l j=some x):l[j.toNat]?=some x:=by
 unfold idx at h;split at h
 ·exact h
 cases h
theorem idx_nat {α:Type} (l:List α) (i:Nat):idx l (i:Int)=l[i]?:=by
 unfold idx; rw [if_pos (Int.natCast_nonneg i)]; rfl
namespace EncL
variable {α:Type} (c:EncL α)
theorem nil:c.E []=[]:=by rw [c.hE]; rfl
theorem append (l m:List α):c.E (l++m)=c.E l++c.E m:=by simp only [c.hE,List.flatMap_append]
theorem one (x:α):c.E [x]=c.C x:=by rw [c.hE]; simp
theorem len (l:List α):(c.E l).length=l.length*c.k:=by
 rw [c.hE]
 induction l with
 | nil=>simp
 | cons a l ih=>rw [List.flatMap_cons,List.length_append,ih,c.hk,List.length_cons,Nat.succ_mul]; omega
theorem take (l:List α) (n:Nat):(c.E l).take (n*c.k)=c.E (l.take n):=by
 by_cases hn:n≤l.length
 ·conv=>lhs; rw [← List.take_append_drop n l]
  rw [c.append,List.take_left'];rw [c.len,List.length_take,Nat.min_eq_left hn]
 have h2:(c.E l).length≤n*c.k:=by
  rw [c.len];exact Nat.mul_le_mul_right _ (by omega)
 rw [List.take_of_length_le h2,List.take_of_length_le (by omega:l.length≤n)]
theorem drop (l:List α) (n:Nat):(c.E l).drop (n*c.k)=c.E (l.drop n):=by
 by_cases hn:n≤l.length
 ·conv=>lhs; rw [← List.take_append_drop n l]
  rw [c.append,List.drop_left'];rw [c.len,List.length_take,Nat.min_eq_left hn]
 rw [List.drop_eq_nil_of_le (by omega:l.length≤n),c.nil,List.drop_eq_nil_of_le];rw [c.len];exact Nat.mul_le_mul_right _ (by omega)
theorem cut (l:List α) (a b:Nat):((c.E l).take (b*c.k)).drop (a*c.k)=c.E ((l.take b).drop a):=by rw [c.take,c.drop]
theorem at_ {l:List α} {i:Nat} {x:α} (h:l[i]?=some x):(c.E l).drop (i*c.k)=c.C x++c.E (l.drop (i+1)):=by
 rw [c.drop];have hi:=(List.getElem?_eq_some_iff.1 h);obtain ⟨hi,rfl⟩:=hi;rw [List.drop_eq_getElem_cons hi,show l[i]::l.drop (i+1)=[l[i]]++l.drop (i+1) from rfl,c.append,c.one]
theorem part {l:List α} {j:Int} {x:α} (h:idx l j=some x):((c.E l).drop (j.toNat*c.k)).take c.k=c.C x:=by
 rw [c.at_ (idx_get h),List.take_left' (c.hk x)]
theorem cell {l:List α} {j:Int} {x:α} (h:idx l j=some x) {o:Nat} {v:HV} (hv:(c.C x)[o]?=some v):(c.E l)[j.toNat*c.k+o]?=some v:=by
 rw [← List.getElem?_drop,c.at_ (idx_get h),List.getElem?_append_left]
 ·exact hv
 exact (List.getElem?_eq_some_iff.1 hv).1
theorem set (l:List α) (i:Nat) (x:α) (h:i<l.length):splice (c.E l) (i*c.k) (c.C x)=c.E (l.set i x):=by
 have h1:i*c.k+c.k≤l.length*c.k:=by
  rw [← Nat.succ_mul]; exact Nat.mul_le_mul_right _ h
 have hs:i*c.k+(c.C x).length≤(c.E l).length:=by rw [c.hk,c.len]; exact h1
 rw [splice_eq hs,c.take,c.hk,← Nat.succ_mul,c.drop,← c.one,← c.append,← c.append,List.set_eq_take_append_cons_drop,if_pos h];simp
end EncL
theorem clean_slE {α:Type} {c:EncL α} {l:List α} (h:∀ x∈l,cleanL (c.C x)):clean (slE c l):=by
 show cleanL (c.E l);rw [c.hE,cleanL_iff];intro d hd;obtain ⟨x,hx,hdx⟩:=List.mem_flatMap.1 hd;exact cleanL_iff.1 (h x hx) d hdx
theorem frz_slE {α:Type} (c:EncL α) {D:Heap} {id ver:Nat} {e:TypeId} {l:List α} (h:hget D id=some (ver,.arr c.k e (c.E l))) (hc:∀ x∈l,(c.C x).map (frz 1 D)=c.C x) :
  frz 2 D (.ar id ver c.k 0 l.length)=slE c l:=by
 have hm:(c.E l).map (frz 1 D)=c.E l:=by
  simp only [c.hE];rw [List.map_flatMap];clear h
  induction l with
  | nil=>rfl
  | cons a l ih =>
   rw [List.flatMap_cons,List.flatMap_cons,hc a (List.mem_cons_self ..),ih fun x hx=>hc x (List.mem_cons_of_mem _ hx)]
 rw [frz,h]
 have:(if ver=ver∧0+l.length*c.k≤(c.E l).length then HV.sl c.k l.length ((((c.E l).drop 0).take (l.length*c.k)).map (frz 1 D)) else HV.ar id ver c.k 0 l.length)=slE c l:=by
  rw [if_pos ⟨rfl,by rw [c.len]; omega⟩,List.drop_zero,c.take,List.take_length,hm];rfl
 exact this
section
variable {P:Program} {s:AS}
theorem loadK_mono {T:TyI} {cs:List HV} {off:Nat} {R R':HV→Prop} (h:loadK T cs off R) (hr:∀ v,R v→R' v):loadK T cs off R':=by
 unfold loadK at h ⊢;split at h
 ·rename_i ha
  rw [if_pos ha];exact ⟨h.1,hr _ h.2⟩
 rename_i ha
 rw [if_neg ha];split at h
 ·exact hr _ h
 exact h.elim
theorem abin_mono {op:BinOp} {x y:HV} {R R':HV→Prop} (h:abin op x y R) (hr:∀ v,R v→R' v):abin op x y R':=by
 unfold abin at h ⊢
 split at h <;> first
  | exact h.elim
  | exact ⟨h.1,h.2.1,hr _ h.2.2⟩
  | exact ⟨h.1,hr _ h.2⟩
  | exact hr _ h
theorem abinT_mono {op:BinOp} {tx:TypeId} {x y:HV} {R R':HV→Prop} (h:abinT P op tx x y R) (hr:∀ v,R v→R' v):abinT P op tx x y R':=by
 unfold abinT at h ⊢;split at h
 ·split at h
  ·exact hr _ h
  ·exact hr _ h
  exact h.elim
 ·split at h
  ·rename_i h1 h2
   try simp only [h1,h2]
   obtain ⟨hc,b,hb,h⟩:=h;refine ⟨hc,b,hb,?_⟩;split at h
   ·exact hr _ h
   ·exact hr _ h
   exact h.elim
  exact h.elim
 exact abin_mono h hr
theorem aval_mono {op:Op} {R R':HV→Prop} (h:aval P op s R) (hr:∀ v,R v→R' v):aval P op s R':=by
 unfold aval at h ⊢;split at h
 ·split at h
  ·exact hr _ h
  exact h.elim
 ·split at h
  ·exact hr _ h
  exact h.elim
 ·split at h
  ·exact hr _ h
  ·exact hr _ h
  ·exact hr _ h
  exact h.elim
 ·split at h
  ·exact loadK_mono h hr
  ·split at h
   ·exact ⟨h.1,loadK_mono h.2 hr⟩
   exact h.elim
  exact h.elim
 ·split at h
  ·split at h
   ·exact ⟨h.1,hr _ h.2⟩
   exact h.elim
  ·exact hr _ h
  exact h.elim
 ·split at h
  ·exact abinT_mono h hr
  exact h.elim
 ·split at h
  ·exact hr _ h
  ·exact hr _ h
  exact h.elim
 ·split at h
  ·exact hr _ h
  ·exact hr _ h
  ·exact hr _ h
  ·split at h
   ·obtain ⟨h1,h⟩:=h
    split at h
    ·exact ⟨h1,hr _ h⟩
    exact h.elim
   exact h.elim
  ·split at h
   ·exact hr _ h
   exact h.elim
  exact h.elim
 ·split at h
  ·exact hr _ h
  exact h.elim
 ·split at h
  ·exact ⟨h.1,hr _ h.2⟩
  ·exact hr _ h
  exact h.elim
 ·split at h
  ·exact loadK_mono h hr
  exact h.elim
 ·split at h
  ·exact ⟨h.1,h.2.1,h.2.2.1,hr _ h.2.2.2⟩
  ·exact ⟨h.1,h.2.1,h.2.2.1,h.2.2.2.1,hr _ h.2.2.2.2⟩
  ·exact ⟨h.1,h.2.1,h.2.2.1,hr _ h.2.2.2⟩
  ·exact ⟨h.1,h.2.1,hr _ h.2.2⟩
  exact h.elim
 ·split at h
  ·obtain ⟨h0,h⟩:=h
   split at h
   ·exact ⟨h0,hr _ h⟩
   exact h.elim
  ·obtain ⟨h0,h1,h⟩:=h
   split at h
   ·exact ⟨h0,h1,loadK_mono h hr⟩
   exact h.elim
  exact h.elim
 ·split at h
  ·split at h
   ·exact hr _ h
   exact h.elim
  exact h.elim
 ·split at h
  ·split at h
   ·exact ⟨h.1,h.2.1,h.2.2.1,hr _ h.2.2.2⟩
   exact h.elim
  ·split at h
   ·exact ⟨h.1,h.2.1,h.2.2.1,h.2.2.2.1,hr _ h.2.2.2.2⟩
   exact h.elim
  ·split at h
   ·exact ⟨h.1,h.2.1,h.2.2.1,h.2.2.2.1,h.2.2.2.2.1,h.2.2.2.2.2.1,hr _ h.2.2.2.2.2.2⟩
   exact h.elim
  exact h.elim
 ·split at h
  ·split at h
   ·exact hr _ h
   ·exact hr _ h
   ·exact ⟨h.1,hr _ h.2⟩
   ·exact hr _ h
   ·exact hr _ h
   ·split at h
    ·exact ⟨h.1,h.2.1,hr _ h.2.2⟩
    exact h.elim
   exact h.elim
  ·split at h
   ·exact ⟨h.1,h.2.1,hr _ h.2.2⟩
   exact h.elim
  ·split at h
   ·exact ⟨h.1,h.2.1,h.2.2.1,hr _ h.2.2.2⟩
   exact h.elim
  ·split at h
   ·exact ⟨h.1,h.2.1,h.2.2.1,h.2.2.2.1,hr _ h.2.2.2.2⟩
   exact h.elim
  ·split at h
   ·exact ⟨h.1,h.2.1,h.2.2.1,h.2.2.2.1,h.2.2.2.2.1,hr _ h.2.2.2.2.2⟩
   exact h.elim
  exact h.elim
 exact h.elim
theorem v_move {x:Operand} {hv:HV} (h:s.ev x=some hv):aval P (.move x) s (· = hv):=by simp only [aval,h]
theorem v_assign {x:Operand} {hv:HV} (h:s.ev x=some hv):aval P (.assign x) s (· = hv):=by simp only [aval,h]
theorem v_pickT {c x y:Operand} {hv h':HV} (h1:s.ev c=some (.bool true)) (h2:s.ev x=some hv) (h3:s.ev y=some h'):aval P (.pick c x y) s (· = hv):=by
 simp only [aval,h1,h2,h3]
 split <;> simp_all
theorem v_pickF {c x y:Operand} {hv h':HV} (h1:s.ev c=some (.bool false)) (h2:s.ev x=some h') (h3:s.ev y=some hv):aval P (.pick c x y) s (· = hv):=by
 simp only [aval,h1,h2,h3]
 split <;> simp_all
theorem v_loadF {t:TypeId} {x:Operand} {T:TyI} {cs:List HV} {off:Nat} {hv:HV} (hT:ty P t=some T) (hx:s.ev x=some (.fptr cs off)) (hl:loadK T cs off (· = hv)):aval P (.load t x) s (· = hv):=by
 simp only [aval,hT,hx]; exact hl
theorem v_loadP {t:TypeId} {x:Operand} {T:TyI} {id ver k:Nat} {e:TypeId} {cs:List HV} {off:Nat} {hv:HV} (hT:ty P t=some T) (hx:s.ev x=some (.ptr id ver off)) (hg:hget s.heap id=some (ver,.arr k e cs)) (hl:loadK T cs off (· = hv)):aval P (.load t x) s (· = hv):=by
 simp only [aval,hT,hx,hg]; exact ⟨trivial,hl⟩
theorem v_nilP {x:Operand} {id ver off:Nat} {o:AObj} (hx:s.ev x=some (.ptr id ver off)) (hg:hget s.heap id=some (ver,o)):aval P (.nilCheck x) s (· = .ptr id ver off):=by simp only [aval,hx,hg,and_self]
theorem v_bin {op:BinOp} {tx:TypeId} {x y:Operand} {u:TypeId} {h g r:HV} (hx:s.ev x=some h) (hy:s.ev y=some g) (hb:abinT P op tx h g (· = r)):aval P (.binOp op tx x y u) s (· = r):=by simp only [aval,hx,hy]; exact hb
theorem b_neB {tx:TypeId} {n m:Nat} {z:Value} {a b:Bool} (hT:ty P tx=some ⟨.bool,n,m,z⟩):abinT P .neq tx (.bool a) (.bool b) (· = .bool (!(a == b))):=by simp only [abinT,hT]
theorem v_not {t:TypeId} {x:Operand} {b:Bool} (hx:s.ev x=some (.bool b)):aval P (.unOp .not t x) s (· = .bool (!b)):=by simp only [aval,hx]
theorem v_convI {src dst:TypeId} {x:Operand} {S:TyI} {k k':IntKind} {a b:Nat} {z:Value} {n:Int} (hs:ty P src=some S) (hd:ty P dst=some ⟨.int k,a,b,z⟩) (hx:s.ev x=some (.int k' n)):aval P (.convert src dst x) s (· = .int k (k.wrap n)):=by
 simp only [aval,hs,hd,hx]
theorem v_func {fn:Fn} {first caps:Array Operand} {fs cs:List HV} (hf:first.toList.mapM s.ev=some fs) (hc:caps.toList.mapM s.ev=some cs):aval P (.makeFunc fn first caps) s (· = .fn fn fs cs):=by simp only [aval,hf,hc]
theorem v_fieldAddrF {S:TypeId} {x:Operand} {f o:Nat} {T:TyI} {cs:List HV} {off:Nat} (hF:fieldOf P S f=some (o,T)) (hx:s.ev x=some (.fptr cs off)):aval P (.fieldAddr S x f) s (· = .fptr cs (off+o)):=by simp only [aval,hF,hx]
theorem v_fieldAddrP {S:TypeId} {x:Operand} {f o:Nat} {T:TyI} {id ver off:Nat} {ob:AObj} (hF:fieldOf P S f=some (o,T)) (hx:s.ev x=some (.ptr id ver off)) (hg:hget s.heap id=some (ver,ob)):aval P (.fieldAddr S x f) s (· = .ptr id ver (off+o)):=by
 simp only [aval,hF,hx];exact ⟨by simp only [alive,hg],trivial⟩
theorem v_idxF {t e:TypeId} {a b:Nat} {z:Value} {x i:Operand} {k n:Nat} {cs:List HV} {k':IntKind} {j:Int} (hT:ty P t=some ⟨.slice e,a,b,z⟩) (hE:elemSize P t=some k) (hx:s.ev x=some (.sl k n cs)) (hi:s.ev i=some (.int k' j)) (hj:0≤j∧j<n) :
  aval P (.indexAddr t x i) s (· = .fptr cs (j.toNat*k)):=by
 simp only [aval,hT,hE,hx,hi];exact ⟨trivial,hj.1,hj.2,trivial⟩
theorem v_idxA {t e:TypeId} {a b:Nat} {z:Value} {x i:Operand} {k n id ver:Nat} {o:AObj} {k':IntKind} {j:Int} (hT:ty P t=some ⟨.slice e,a,b,z⟩) (hE:elemSize P t=some k) (hx:s.ev x=some (.ar id ver k 0 n)) (hi:s.ev i=some (.int k' j)) (hj:0≤j∧j<n) (hg:hget s.heap id=some (ver,o)) :
  aval P (.indexAddr t x i) s (· = .ptr id ver (j.toNat*k)):=by
 simp only [aval,hT,hE,hx,hi];exact ⟨trivial,hj.1,hj.2,by simp only [alive,hg],by rw [Nat.zero_add]⟩
theorem v_extract {x:Operand} {i:Nat} {vs:List HV} {hv:HV} (hx:s.ev x=some (.tup vs)) (h:vs[i]?=some hv):aval P (.extract x i) s (· = hv):=by simp only [aval,hx,h]
theorem v_sliceF {α:Type} (c:EncL α) {t e:TypeId} {sz by':Nat} {z:Value} {x:Operand} {lo hi:Option Operand} {l:List α} {a b:Int} (hT:ty P t=some ⟨.slice e,sz,by',z⟩) (hE:elemSize P t=some c.k) (hx:s.ev x=some (.sl c.k l.length (c.E l))) (ha:asl s lo 0=some a) (hb:asl s hi l.length=some b) (h:0≤a∧a≤b∧b≤l.length) :
  aval P (.slice t x lo hi none) s (· = slE c ((l.take b.toNat).drop a.toNat)):=by
 simp only [aval,hT,hE,hx,ha,hb];refine ⟨trivial,h.1,h.2.1,h.2.2,?_⟩;rw [c.cut];show HV.sl c.k (b.toNat - a.toNat) _=.sl c.k ((l.take b.toNat).drop a.toNat).length _
 have:((l.take b.toNat).drop a.toNat).length=b.toNat - a.toNat:=by
  rw [List.length_drop,List.length_take]; omega
 rw [this]
theorem v_lenS {t:TypeId} {ts aa:Array _} {sz by':Nat} {z:Value} {x:Operand} {l:List UInt8} (ht:ts.toList=[t]) (has:aa.toList=[x]) (hT:ty P t=some ⟨.string,sz,by',z⟩) (hx:s.ev x=some (.str l)):aval P (.call ⟨.builtin .len,aa,ts⟩) s (· = .int .i64 (l.length:Int)):=by
 simp only [aval,ht,has,hT,hx]
theorem v_lenF {t e:TypeId} {ts aa:Array _} {sz by':Nat} {z:Value} {x:Operand} {k n:Nat} {cs:List HV} (ht:ts.toList=[t]) (has:aa.toList=[x]) (hT:ty P t=some ⟨.slice e,sz,by',z⟩) (hx:s.ev x=some (.sl k n cs)):aval P (.call ⟨.builtin .len,aa,ts⟩) s (· = .int .i64 (n:Int)):=by
 simp only [aval,ht,has,hT,hx]
theorem v_lenA {t e:TypeId} {ts aa:Array _} {sz by':Nat} {z:Value} {x:Operand} {id ver k off n:Nat} {o:AObj} (ht:ts.toList=[t]) (has:aa.toList=[x]) (hT:ty P t=some ⟨.slice e,sz,by',z⟩) (hx:s.ev x=some (.ar id ver k off n)) (hg:hget s.heap id=some (ver,o)):aval P (.call ⟨.builtin .len,aa,ts⟩) s (· = .int .i64 (n:Int)):=by
 simp only [aval,ht,has,hT,hx];exact ⟨by simp only [alive,hg],trivial⟩
theorem v_min {ts aa:Array _} {x y:Operand} {k:IntKind} {a b:Int} (has:aa.toList=[x,y]) (hx:s.ev x=some (.int k a)) (hy:s.ev y=some (.int k b)):aval P (.call ⟨.builtin .min,aa,ts⟩) s (· = .int k (min a b)):=by
 simp only [aval,has,hx,hy];exact ⟨.inl trivial,trivial,rfl⟩
theorem v_max {ts aa:Array _} {x y:Operand} {k:IntKind} {a b:Int} (has:aa.toList=[x,y]) (hx:s.ev x=some (.int k a)) (hy:s.ev y=some (.int k b)):aval P (.call ⟨.builtin .max,aa,ts⟩) s (· = .int k (max a b)):=by
 simp only [aval,has,hx,hy];exact ⟨.inr trivial,trivial,rfl⟩
theorem v_min3 {ts aa:Array _} {x y z:Operand} {k:IntKind} {a b c:Int} (has:aa.toList=[x,y,z]) (hx:s.ev x=some (.int k a)) (hy:s.ev y=some (.int k b)) (hz:s.ev z=some (.int k c)):aval P (.call ⟨.builtin .min,aa,ts⟩) s (· = .int k (min (min a b) c)):=by
 simp only [aval,has,hx,hy,hz];exact ⟨.inl trivial,trivial,trivial,rfl⟩
theorem l_lit {T:TyI} {cs:List HV} {off:Nat} {hv:HV} (ha:aggD T.desc=false) (h:cs[off]?=some hv):loadK T cs off (· = hv):=by
 unfold loadK; rw [if_neg (by rw [ha]; simp),h]
theorem l_litA {T:TyI} {cs ds:List HV} {off:Nat} (ha:aggD T.desc=true) (hl:off+T.size≤cs.length) (h:(cs.drop off).take T.size=ds):loadK T cs off (· = .agg ds):=by
 unfold loadK; rw [if_pos ha]; exact ⟨hl,by rw [h]⟩
theorem l_cell {α:Type} (c:EncL α) {T:TyI} {l:List α} {j:Int} {x:α} (h:idx l j=some x) {o:Nat} {hv:HV} (ha:aggD T.desc=false) (hv':(c.C x)[o]?=some hv):loadK T (c.E l) (j.toNat*c.k+o) (· = hv) :=
 l_lit ha (c.cell h hv')
theorem l_agg {α:Type} (c:EncL α) {T:TyI} {l:List α} {j:Int} {x:α} (h:idx l j=some x) (ha:aggD T.desc=true) (hs:T.size=c.k):loadK T (c.E l) (j.toNat*c.k) (· = .agg (c.C x)):=by
 refine l_litA ha ?_ (by rw [hs]; exact c.part h);have:=idx_lt h;rw [hs,c.len,← Nat.succ_mul];exact Nat.mul_le_mul_right _ (by omega)
end
section
variable {P:Program} {s:AS} {fid:Nat} {mt:List Nat} {o:Oper} {K:AS→Prop}
theorem aslice_mono {t:TypeId} {n:Nat} {ps:List (Nat × Operand)} {R R':Nat→TypeId→List HV→Prop} (h:aslice P s t n ps R) (hr:∀ k e cs,R k e cs→R' k e cs):aslice P s t n ps R':=by
 unfold aslice at h ⊢;split at h
 ·split at h
  ·split at h
   ·obtain ⟨h1,h2,h⟩:=h
    refine ⟨h1,h2,?_⟩;split at h
    ·exact hr _ _ _ h
    exact h.elim
   exact h.elim
  exact h.elim
 exact h.elim
def isVal:Op→Bool
 | .box _ _ | .alloc _ | .store _ _ _ | .buildSlice _ _ _ | .makeSlice _ _ _ | .build _ _ | .makeMap _ _ | .mapUpdate _ _ _ _ | .insert _ _ _ _ | .lookup _ _ _ _ | .range _ _ | .next _ _ | .entry _=>false
 | .call c=>match c.callee with
  | .value _=>false
  | .builtin .append=>false
  | .builtin .clear=>false
  | .builtin .copy=>false
  | _=>true
 | _=>true
theorem op_val {hv:HV} (hs:isVal o.op=true) (h:aval P o.op s (· = hv)) (k:K (s.put o.dst hv)):aop P fid mt o K s:=by
 unfold aop;split
 all_goals first
  | (rename_i hop; rw [hop] at hs; cases hs; done)
  | exact aval_mono h fun v e=>e ▸ k
theorem ops_val {hv:HV} {K:HV→Prop} (hs:isVal o.op=true) (h:aval P o.op s (· = hv)) (k:K hv):aopS P o K s:=by
 unfold aopS;split
 all_goals first
  | (rename_i hop; rw [hop] at hs; cases hs; done)
  | exact aval_mono h fun v e=>e ▸ k
theorem op_box {e:TypeId} {x:Operand} {hv:HV} {cs:List HV} (hop:o.op=.box e x) (hx:s.ev x=some hv) (hc:hv.cells?=some cs) (hm:isMut mt o.dst=false) (k:K (s.put o.dst (.fptr cs 0))):aop P fid mt o K s:=by
 simp only [aop,hop,hx,hc,hm]; exact k
theorem op_alloc {e:TypeId} {T:TyI} {zs:List HV} (hop:o.op=.alloc e) (hT:ty P e=some T) (hz:zcells T.zero=some zs)
  (k:∀ ver,K (({ s with heap:=hset s.heap (cid fid o.dst) ver (.arr zs.length e zs) }:AS).put o.dst (.ptr (cid fid o.dst) ver 0))):aop P fid mt o K s:=by
 simp only [aop,hop,hT,hz]; exact k
theorem op_store {t:TypeId} {x y:Operand} {id ver off k:Nat} {e:TypeId} {hv:HV} {T:TyI} {cs xs:List HV} (hop:o.op=.store t x y) (hx:s.ev x=some (.ptr id ver off)) (hy:s.ev y=some hv) (hT:ty P t=some T) (hc:hv.cells?=some cs)
  (hg:hget s.heap id=some (ver,.arr k e xs)) (h1:T.size=cs.length) (h2:off+cs.length≤xs.length) (kk:K (({ s with heap:=hset s.heap id ver (.arr k e (splice xs off cs)) }:AS).put o.dst (.v undef))):aop P fid mt o K s:=by
 simp only [aop,hop,hx,hy,hT,hc,hg];exact ⟨trivial,h1,h2,kk⟩
theorem op_storeE {α:Type} (c:EncL α) {t:TypeId} {x y:Operand} {id ver:Nat} {e:TypeId} {hv:HV} {T:TyI} {l:List α} {j:Int} {v:α} (hop:o.op=.store t x y) (hx:s.ev x=some (.ptr id ver (j.toNat*c.k))) (hy:s.ev y=some hv) (hT:ty P t=some T) (hc:hv.cells?=some (c.C v))
  (hg:hget s.heap id=some (ver,.arr c.k e (c.E l))) (h1:T.size=c.k) (hj:0≤j∧j<l.length) (kk:K (({ s with heap:=hset s.heap id ver (.arr c.k e (c.E (l.set j.toNat v))) }:AS).put o.dst (.v undef))):aop P fid mt o K s:=by
 have hlt:j.toNat<l.length:=by omega
 refine op_store hop hx hy hT hc hg (by rw [h1,c.hk]) ?_ (by rw [c.set l j.toNat v hlt]; exact kk);rw [c.hk,c.len,← Nat.succ_mul];exact Nat.mul_le_mul_right _ hlt
theorem op_bsl {t:TypeId} {n k:Nat} {e:TypeId} {ps:Array (Nat × Operand)} {cs:List HV} (hop:o.op=.buildSlice t n ps) (hn:Nat.ble n 16777216=true) (hm:(isMut mt o.dst || n == 0)=false) (h:aslice P s t n ps.toList fun k' e' cs'=>k'=k∧e'=e∧cs'=cs) (kk:K (s.put o.dst (.sl k n cs))):aop P fid mt o K s:=by
 simp only [aop,hop,hm];refine ⟨Nat.le_of_ble_eq_true hn,?_⟩
 exact aslice_mono h fun k' e' cs' ⟨h1,h2,h3⟩=>by subst h1 h2 h3; exact kk
theorem op_bslM {t:TypeId} {n k:Nat} {e:TypeId} {ps:Array (Nat × Operand)} {cs:List HV} (hop:o.op=.buildSlice t n ps) (hn:Nat.ble n 16777216=true) (hm:(isMut mt o.dst || n == 0)=true) (h:aslice P s t n ps.toList fun k' e' cs'=>k'=k∧e'=e∧cs'=cs)
  (kk:∀ ver,K (({ s with heap:=hset s.heap (cid fid o.dst) ver (.arr k e cs) }:AS).put o.dst (.ar (cid fid o.dst) ver k 0 n))):aop P fid mt o K s:=by
 simp only [aop,hop,hm];refine ⟨Nat.le_of_ble_eq_true hn,?_⟩
 exact aslice_mono h fun k' e' cs' ⟨h1,h2,h3⟩=>by subst h1 h2 h3; exact kk
theorem ops_bsl {t:TypeId} {n k:Nat} {e:TypeId} {ps:Array (Nat × Operand)} {cs:List HV} {K:HV→Prop} (hop:o.op=.buildSlice t n ps) (hn:Nat.ble n 16777216=true) (h:aslice P s t n ps.toList fun k' e' cs'=>k'=k∧e'=e∧cs'=cs) (kk:K (.sl k n cs)):aopS P o K s:=by
 simp only [aopS,hop];refine ⟨Nat.le_of_ble_eq_true hn,?_⟩
 exact aslice_mono h fun k' e' cs' ⟨h1,h2,h3⟩=>by subst h1 h2 h3; exact kk
theorem as_of {t e:TypeId} {n a b:Nat} {z:Value} {Te:TyI} {ps:List (Nat × Operand)} {zs:List HV} {qs:List (Nat × HV)} {cs:List HV} (hT:ty P t=some ⟨.slice e,a,b,z⟩) (hTe:ty P e=some Te) (hz:zcells Te.zero=some zs) (hq:aparts s ps=some qs) (h1:zs.length=Te.size) (h2:Nat.ble (n*Te.size) 16777216=true)
  (hf:afill (fun i=>some (i*Te.size,Te.size)) qs (zrep zs n)=some cs):aslice P s t n ps fun k' e' cs'=>k'=Te.size∧e'=e∧cs'=cs:=by
 unfold aslice;simp only [hT,hTe,hz,hq];rw [hf];exact ⟨h1,Nat.le_of_ble_eq_true h2,trivial,trivial,rfl⟩
theorem op_make {t e:TypeId} {a b:Nat} {z:Value} {x y:Operand} {l c:Int} {Te:TyI} {zs:List HV} (hop:o.op=.makeSlice t x y) (hT:ty P t=some ⟨.slice e,a,b,z⟩) (hx:s.ev x=some (.int .i64 l)) (hy:s.ev y=some (.int .i64 c)) (hTe:ty P e=some Te) (hz:zcells Te.zero=some zs)
  (h1:zs.length=Te.size) (h2:0≤l∧l≤c∧c*Te.bytes≤281474976710656) (k:∀ ver,K (({ s with heap:=hset s.heap (cid fid o.dst) ver (.arr Te.size e (zrep zs l.toNat)) }:AS).put o.dst (.ar (cid fid o.dst) ver Te.size 0 l.toNat))):aop P fid mt o K s:=by
 simp only [aop,hop,hT,hx,hy,hTe,hz];exact ⟨h1,h2.1,h2.2.1,h2.2.2,k⟩
theorem op_makeE {α:Type} (en:EncL α) (z0:α) {t e:TypeId} {a b:Nat} {z:Value} {x y:Operand} {l c:Int} {Te:TyI} (hop:o.op=.makeSlice t x y) (hT:ty P t=some ⟨.slice e,a,b,z⟩) (hx:s.ev x=some (.int .i64 l)) (hy:s.ev y=some (.int .i64 c)) (hTe:ty P e=some Te) (hz:zcells Te.zero=some (en.C z0))
  (h1:Te.size=en.k) (h2:0≤l∧l≤c∧c*Te.bytes≤281474976710656) (k:∀ ver,K (({ s with heap:=hset s.heap (cid fid o.dst) ver (.arr en.k e (en.E (List.replicate l.toNat z0))) }:AS).put o.dst (.ar (cid fid o.dst) ver en.k 0 (List.replicate l.toNat z0).length))):aop P fid mt o K s:=by
 refine op_make hop hT hx hy hTe hz (by rw [en.hk,h1]) h2 ?_;rw [h1]
 have e1:zrep (en.C z0) l.toNat=en.E (List.replicate l.toNat z0):=by
  rw [en.hE,zrep];generalize l.toNat=n
  induction n with
  | zero=>rfl
  | succ n ih=>rw [List.replicate_succ,List.replicate_succ,List.flatten_cons,List.flatMap_cons,ih]
 rw [e1];rw [List.length_replicate] at k;exact k
theorem abase_mono {k:Nat} {e:TypeId} {x:HV} {R R':Nat→List HV→Prop} (h:abase s k e x R) (hr:∀ n cs,R n cs→R' n cs):abase s k e x R':=by
 unfold abase at h ⊢;split at h
 ·exact hr _ _ h
 ·split at h
  ·obtain ⟨h1,h2,h3,h4,h5,h6⟩:=h
   exact ⟨h1,h2,h3,h4,h5,hr _ _ h6⟩
  exact h.elim
 exact h.elim
theorem asrc_mono {xt:TypeId} {k:Nat} {x:HV} {R R':Nat→List HV→Prop} (h:asrc P s xt k x R) (hr:∀ n cs,R n cs→R' n cs):asrc P s xt k x R':=by
 unfold asrc at h ⊢;split at h
 ·exact ⟨h.1,hr _ _ h.2⟩
 ·split at h
  ·exact ⟨h.1,h.2.1,h.2.2.1,hr _ _ h.2.2.2⟩
  exact h.elim
 ·exact hr _ _ h
 ·exact ⟨h.1,hr _ _ h.2⟩
 exact h.elim
theorem op_append {t xt e:TypeId} {a b:Nat} {z:Value} {aa:Array Operand} {ts:Array TypeId} {x y:Operand} {hx hy:HV} {Te:TyI} {n m:Nat} {cs ds:List HV} (hop:o.op=.call ⟨.builtin .append,aa,ts⟩) (has:aa.toList=[x,y]) (hts:ts.toList=[t,xt]) (hT:ty P t=some ⟨.slice e,a,b,z⟩) (hx':s.ev x=some hx) (hy':s.ev y=some hy) (hTe:ty P e=some Te)
  (hz:(zcells Te.zero).any (fun zs=>zs.length == Te.size)=true) (hb:abase s Te.size e hx fun n' cs'=>n'=n∧cs'=cs) (hs:asrc P s xt Te.size hy fun m' ds'=>m'=m∧ds'=ds) (h:(n+m)*Te.bytes≤140737488355328∧n+m≤maxLen)
  (k:∀ ver,K (({ s with heap:=hset s.heap (baseId hx (cid fid o.dst)) ver (.arr Te.size e (cs++ds)) }:AS).put o.dst (.ar (baseId hx (cid fid o.dst)) ver Te.size 0 (n+m)))):aop P fid mt o K s:=by
 simp only [aop,hop,has,hts,hT,hx',hy',hTe];refine ⟨hz,?_⟩;refine abase_mono hb fun n' cs' ⟨e1,e2⟩=>?_;subst e1 e2;refine asrc_mono hs fun m' ds' ⟨e1,e2⟩=>?_;subst e1 e2;exact ⟨h.1,h.2,k⟩
theorem op_call {aa:Array Operand} {ts:Array TypeId} {f:Operand} {g:FuncId} {fs hs cs args:List HV} (hop:o.op=.call ⟨.value f,aa,ts⟩) (hf:s.ev f=some (.fn (.func g) fs cs)) (ha:aa.toList.mapM s.ev=some hs) (hargs:fs++hs++cs=args)
  (k:ACall P g args s.heap fun r H'=>K (({ s with heap:=H' }:AS).put o.dst r)):aop P fid mt o K s:=by
 subst hargs;simp only [aop,hop,hf,ha]; exact k
theorem ops_call {aa:Array Operand} {ts:Array TypeId} {f:Operand} {g:FuncId} {fs hs cs args:List HV} {q:HV} {K:HV→Prop} (hop:o.op=.call ⟨.value f,aa,ts⟩) (hf:s.ev f=some (.fn (.func g) fs cs)) (ha:aa.toList.mapM s.ev=some hs) (hargs:fs++hs++cs=args)
  (h:ACallD P g args s.heap q) (k:K q):aopS P o K s:=by
 subst hargs;simp only [aopS,hop,hf,ha];exact ⟨q,h,k⟩
theorem op_callD {aa:Array Operand} {ts:Array TypeId} {f:Operand} {g:FuncId} {fs hs cs args:List HV} {q:HV} (hop:o.op=.call ⟨.value f,aa,ts⟩) (hf:s.ev f=some (.fn (.func g) fs cs)) (ha:aa.toList.mapM s.ev=some hs) (hargs:fs++hs++cs=args)
  (h:ACallD P g args s.heap q) (k:K (s.put o.dst q)):aop P fid mt o K s :=
 op_call hop hf ha hargs (ACall.mono h fun r H' ⟨h1,h2⟩=>by subst h1 h2; exact k)
theorem bl_of {t:TypeId} {a b:Nat} {z:Value} {fs:Array Field} {ps:List (Nat × Operand)} {pl:List (Nat × Nat)} {zs cs:List HV} {qs:List (Nat × HV)} (hT:ty P t=some ⟨.struct fs,a,b,z⟩) (hp:placesOf P fs.toList=some pl) (hz:zcells z=some zs) (hq:aparts s ps=some qs)
  (hf:afill (fun i=>pl[i]?) qs zs=some cs):abuild P s t ps (· = .agg cs):=by
 unfold abuild;simp only [hT,hp,hz,hq];rw [hf]
theorem ops_build {t:TypeId} {ps:Array (Nat × Operand)} {cs:List HV} {K:HV→Prop} (hop:o.op=.build t ps) (h:abuild P s t ps.toList (· = .agg cs)) (k:K (.agg cs)):aopS P o K s:=by
 simp only [aopS,hop];obtain ⟨cs',h1,h2⟩:=abuild_det h;cases h1;exact h2 _ k
theorem op_build {t:TypeId} {ps:Array (Nat × Operand)} {cs:List HV} (hop:o.op=.build t ps) (h:abuild P s t ps.toList (· = .agg cs)) (k:K (s.put o.dst (.agg cs))):aop P fid mt o K s:=by
 simp only [aop,hop];unfold abuild at h ⊢;split at h
 ·split at h
  ·split at h
   ·cases h
    exact k
   exact h.elim
  exact h.elim
 ·split at h
  ·split at h
   ·cases h
    exact k
   exact h.elim
  exact h.elim
 exact h.elim
end
section
variable {P:Program} {ro:Option Nat} {N:Nat} {s:AS} {fid:Nat} {mt:List Nat} {o:Oper} {all rest:List Oper} {K:AS→Prop} {tab:List (Nat × Nat)}
end
def jp {S R:Type} (M:S→Option R) (B:(S→Option R)→Option R):Option R:=B M
inductive Ou (V R:Type) where
 | go (v:V)
 | ret (r:R)
def lpO {V R Y:Type} (x:Option (Ou V R)) (M:V→Option Y) (Rt:R→Option Y):Option Y:=match x with
 | some (.go v)=>M v
 | some (.ret r)=>Rt r
 | none=>none
theorem ifT {α:Type} {p:Prop} [Decidable p] {A B x:α} (hp:p) (h:(if p then A else B)=x):A=x:=by rw [if_pos hp] at h; exact h
theorem ifF {α:Type} {p:Prop} [Decidable p] {A B x:α} (hp:¬ p) (h:(if p then A else B)=x):B=x:=by rw [if_neg hp] at h; exact h
theorem ifN {α:Type} {p:Prop} [Decidable p] {A:Option α} {x:α} (h:(if p then A else none)=some x):p∧A=some x:=by
 by_cases hp:p
 ·rw [if_pos hp] at h; exact ⟨hp,h⟩
 rw [if_neg hp] at h; cases h
theorem bS {α β:Type} {o:Option α} {f:α→Option β} {r:β} (h:o.bind f=some r):∃ x,o=some x∧f x=some r:=Option.bind_eq_some_iff.1 h
theorem notT {p:Prop} [Decidable p] (h:(!decide p)=true):¬ p:=by simpa using h
theorem notF {p:Prop} [Decidable p] (h:(!decide p)=false):p:=by simpa using h
theorem notT' {p:Prop} [Decidable p] (h:¬ p):(!decide p)=true:=by simpa using h
theorem notF' {p:Prop} [Decidable p] (h:p):(!decide p)=false:=by simpa using h
theorem bF {b:Bool} (h:¬ b=true):b=false:=by simpa using h
theorem bF' {b:Bool} (h:b=false):¬ b=true:=by simp [h]
def Up (G:AS→Prop):Prop:=∀ s:AS,s.to G→G s
section
variable {P:Program} {ro:Option Nat} {N:Nat} {Q:Exit→AS→Prop} {s:AS}
theorem up_then {y:Code}:Up (thenQ (AW P ro N y Q) Q .normal):=fun _ h=>AW.to h
theorem up_to {G:AS→Prop}:Up (fun s=>s.to G):=fun _ h=>to_bind h
theorem AW.seqJ {S V R:Type} {x y:Code} {M:S→Option R} {B:(S→Option R)→Option R} {r:R} (h:jp M B=some r) (St:S→V→AS) (k:∀ a v,M a=some r→AW P ro N y Q (St a v))
  (b:∀ M',B M'=some r→AW P ro N x (thenQ (fun s'=>s'.to fun t=>∃ a v,M' a=some r∧t=St a v) Q) s):AW P ro N (.seq x y) Q s:=by
 refine AW.seq ((b M h).mono ?_)
 rintro e s' h
 cases e with
 | normal=>exact AW.to (to_mono h fun t ⟨a,v,h1,e⟩=>by subst e; exact k a v h1)
 | exit id=>exact h
 | goto l=>exact h
 | ret=>exact h
 | panic ch=>exact h
 | outgrown=>exact h
theorem AW.lastJ {S V R:Type} {x:Code} {M:S→Option R} {B:(S→Option R)→Option R} {r:R} (h:jp M B=some r) (up:Up (Q .normal)) (St:S→V→AS) (k:∀ a v,M a=some r→Q .normal (St a v))
  (b:∀ M',B M'=some r→AW P ro N x (thenQ (fun s'=>s'.to fun t=>∃ a v,M' a=some r∧t=St a v) Q) s):AW P ro N x Q s:=by
 refine (b M h).mono ?_
 rintro e s' h
 cases e with
 | normal=>exact up _ (to_mono h fun t ⟨a,v,h1,e⟩=>by subst e; exact k a v h1)
 | exit id=>exact h
 | goto l=>exact h
 | ret=>exact h
 | panic ch=>exact h
 | outgrown=>exact h
def lpQ (b:Nat) (J Nx:AS→Prop) (Q:Exit→AS→Prop):Exit→AS→Prop
 | .normal,s=>Nx s
 | .exit id,s=>if id=b then J s else Q (.exit id) s
 | e,s=>Q e s
theorem AW.lpX {S X R V W:Type} {c:Code} {b:Nat} {body:S→Option (Stp S X)} {M:X→Option R} {s0:S} {r:R} (h:(loopW body s0).bind M=some r) (up:Up (Q .normal)) (St:S→V→AS) (h0:s.to fun t=>∃ v,t=St s0 v) (Sx:X→W→AS)
  (k:∀ a w,M a=some r→Q .normal (Sx a w))
  (round:∀ a v st,body a=some st→AW P ro N c (lpQ b (fun s'=>s'.to fun t=>∃ x w,some (Stp.exit x)=some st∧t=Sx x w) (fun s'=>s'.to fun t=>∃ a' v',some (Stp.next a')=some st∧t=St a' v') Q) (St a v)):AW P ro N (.block b (.loop c)) Q s:=by
 obtain ⟨x,hx,hM⟩:=bS h;refine AW.block (AW.loopR St hx h0 fun a v st hb hy=>?_);refine (round a v st hb).mono ?_
 rintro e s' h
 cases e with
 | normal=>exact to_mono h fun t ⟨a',v',h1,hl⟩=>⟨a',v',(Option.some.inj h1).symm,hl⟩
 | exit id =>
  simp only [lpQ] at h;simp only [thenQ,blockQ];split at h
  ·rename_i he
   rw [if_pos he];refine up _ (to_mono h fun t ⟨y,w,h1,hl⟩=>?_);have:=hy y (Option.some.inj h1).symm;subst this hl;exact k y w hM
  rename_i he
  rw [if_neg he];exact h
 | goto l=>exact h
 | ret=>exact h
 | panic ch=>exact h
 | outgrown=>exact h
theorem AW.lpR {S X R Y V W:Type} {c:Code} {b:Nat} {body:S→Option (Stp S (Ou X R))} {M:X→Option Y} {Rt:R→Option Y} {s0:S} {r:Y} (h:lpO (loopW body s0) M Rt=some r) (up:Up (Q .normal)) (St:S→V→AS) (h0:s.to fun t=>∃ v,t=St s0 v) (Sx:X→W→AS)
  (k:∀ a w,M a=some r→Q .normal (Sx a w))
  (round:∀ a v st,body a=some st→(∀ r',some (Stp.exit (Ou.ret r'))=some st→Rt r'=some r)→AW P ro N c (lpQ b (fun s'=>s'.to fun t=>∃ x w,some (Stp.exit (Ou.go x))=some st∧t=Sx x w) (fun s'=>s'.to fun t=>∃ a' v',some (Stp.next a')=some st∧t=St a' v') Q) (St a v)) :
  AW P ro N (.block b (.loop c)) Q s:=by
 obtain ⟨x,hx,hM⟩:∃ x,loopW body s0=some x∧(match x with
   | .go v=>M v
   | .ret r=>Rt r)=some r:=by
  cases hl:loopW body s0 with
  | none=>rw [hl] at h; cases h
  | some x=>rw [hl] at h; exact ⟨x,rfl,by cases x <;> exact h⟩
 refine AW.block (AW.loopR St hx h0 fun a v st hb hy=>?_);refine (round a v st hb fun r' e=>by have:=hy _ (Option.some.inj e).symm; subst this; exact hM).mono ?_
 rintro e s' h
 cases e with
 | normal=>exact to_mono h fun t ⟨a',v',h1,hl⟩=>⟨a',v',(Option.some.inj h1).symm,hl⟩
 | exit id =>
  simp only [lpQ] at h;simp only [thenQ,blockQ];split at h
  ·rename_i he
   rw [if_pos he];refine up _ (to_mono h fun t ⟨y,w,h1,hl⟩=>?_);have:=hy _ (Option.some.inj h1).symm;subst this hl;exact k y w hM
  rename_i he
  rw [if_neg he];exact h
 | goto l=>exact h
 | ret=>exact h
 | panic ch=>exact h
 | outgrown=>exact h
def leF (n:Nat) (D:Heap) (l:List (Nat × HV)):List (Nat × HV)→Prop
 | []=>True
 | (i,h)::l'=>(∃ g,sget l i=some g∧frz n D g=h)∧leF n D l l'
theorem leF_get {n:Nat} {D:Heap} {l:List (Nat × HV)}:∀ {l':List (Nat × HV)},leF n D l l'→∀ t hv,sget l' t=some hv→∃ g,sget l t=some g∧frz n D g=hv
 | [],_,_,_,h=>by cases h
 | (i,g)::l',h,t,hv,ht=>by
  simp only [sget] at ht;split at ht
  ·rename_i e; subst e; cases ht; exact h.1
  exact leF_get h.2 t hv ht
def noneH (H:Heap):Heap→Prop
 | []=>True
 | (i,_)::l=>hget H i=none∧noneH H l
theorem noneH_get {H:Heap}:∀ {D:Heap},noneH H D→∀ t x,hget D t=some x→hget H t=none
 | [],_,_,_,h=>by cases h
 | (i,v,o)::l',h,t,hv,ht=>by
  simp only [hget] at ht;split at ht
  ·rename_i e; subst e; exact h.1
  exact noneH_get h.2 t hv ht
theorem to_frz {G:AS→Prop} (n:Nat) (D:Heap) (s':AS) (h1:leF n D s.slots s'.slots) (h2:leH s.heap s'.heap) (h3:leH s.heap D) (h4:noneH s'.heap D) (h:G s'):s.to G:=by
 intro ro N B μ a w hs;refine ⟨μ.cut s'.heap,s',h,⟨hs.size,hs.sr.sub (leH_get h2),fun t hv ht=>?_,hs.marks.evo (Evo.cut w μ s'.heap),hs.ro.evo (Evo.cut w μ s'.heap)⟩,Evo.cut w μ s'.heap⟩;obtain ⟨g,hg,rfl⟩:=leF_get h1 t hv ht;exact ⟨(hs.slot t g hg).1,frz_rep hs.sr (fun id x hx=>⟨leH_get h3 id x hx,noneH_get h4 id x hx⟩) n g _ (hs.slot t g hg).2⟩
def leW (l:List (Nat × HV)):List (Nat × HV)→Prop
 | []=>True
 | (i,h)::l'=>(∃ g,sget l i=some g∧Le g h)∧leW l l'
theorem leW_get {l:List (Nat × HV)}:∀ {l':List (Nat × HV)},leW l l'→∀ t hv,sget l' t=some hv→∃ g,sget l t=some g∧Le g hv
 | [],_,_,_,h=>by cases h
 | (i,g)::l',h,t,hv,ht=>by
  simp only [sget] at ht;split at ht
  ·rename_i e; subst e; cases ht; exact h.1
  exact leW_get h.2 t hv ht
theorem to_weak {G:AS→Prop} (s':AS) (h1:leW s.slots s'.slots) (h2:leH s.heap s'.heap) (h:G s'):s.to G:=by
 intro ro N B μ a w hs;refine ⟨μ.cut s'.heap,s',h,⟨hs.size,hs.sr.sub (leH_get h2),fun t hv ht=>?_,hs.marks.evo (Evo.cut w μ s'.heap),hs.ro.evo (Evo.cut w μ s'.heap)⟩,Evo.cut w μ s'.heap⟩;obtain ⟨g,hg,hl⟩:=leW_get h1 t hv ht;exact ⟨(hs.slot t g hg).1,Rep.evo (Evo.cut w μ s'.heap) hs.sr.ok _ _ (hl.rep (hs.slot t g hg).2)⟩
theorem to_own {G:AS→Prop} (id t k:Nat) (e:TypeId) (ht:sget s.slots t=some (.v (.slice none 0 0))) (h:∀ ver,G { slots:=sset s.slots t (.ar id ver k 0 0),heap:=hset s.heap id ver (.arr k e []) }):s.to G:=by
 intro ro N B μ a w hs;have hE1:Evo w μ w (μ.set id none):=Evo.repl hs.sr id none (Same.refl w) (Nat.le_refl _) (fun _ _ _=>rfl) (fun b hb=>by cases hb);have hsr:SR w (μ.set id none) (hset s.heap id μ.nx (.arr k e [])):=hs.sr.repl id none _ (Same.refl w) (Nat.le_refl _) (fun _ _ _=>rfl) (fun b hb=>by cases hb) rfl;refine ⟨μ.set id none,_,h μ.nx,⟨hs.size,hsr,fun t' hv ht'=>?_,hs.marks.evo hE1,hs.ro.evo hE1⟩,hE1⟩;simp only [sget_sset] at ht';split at ht'
 ·rename_i e'
  subst e';cases ht';obtain ⟨hl,hr⟩:=hs.slot t' _ ht;refine ⟨hl,.inl ⟨none,by simp [Mu.set],.inl ⟨rfl,hr,rfl,rfl⟩⟩⟩
 obtain ⟨hl,hr⟩:=hs.slot t' _ ht';exact ⟨hl,Rep.evo hE1 hs.sr.ok _ _ hr⟩
theorem resT {t:Nat} {v:HV} {rvs:List ResultVar} {F:List HV→Prop} (hv:sget s.slots t=some v) (h:resAll P s rvs fun hs=>F (v::hs)):resAll P s (.tmp t::rvs) F:=by
 simp only [resAll,resOne,hv]; exact h
theorem resP {t:Nat} {ty':TypeId} {T:TyI} {cs:List HV} {id ver k off:Nat} {e:TypeId} {v:HV} {rvs:List ResultVar} {F:List HV→Prop} (hT:ty P ty'=some T) (hv:sget s.slots t=some (.ptr id ver off)) (hg:hget s.heap id=some (ver,.arr k e cs)) (hl:loadK T cs off (· = v)) (h:resAll P s rvs fun hs=>F (v::hs)):resAll P s (.cell t ty'::rvs) F:=by
 simp only [resAll,resOne,hv,hT,hg]; exact ⟨trivial,loadK_mono hl fun _ e=>by subst e; exact h⟩
theorem ret_pure {rvs:List ResultVar} {hs:List HV} {q:HV} {e:Exit} (he:e=.normal∨e=.ret) (hr:resAll P s rvs fun hs'=>hs'=hs) (hj:joinR hs=q) (hc:clean q) :
  retQ P rvs (fun r H'=>r=q∧clean r∧H'=[]) e s:=by
 refine ⟨he,?_⟩
 have:∀ {rvs:List ResultVar} {F G:List HV→Prop},resAll P s rvs F→(∀ h,F h→G h)→resAll P s rvs G:=by
  intro rvs
  induction rvs with
  | nil=>intro F G h hg; exact hg _ h
  | cons rv rvs ih =>
   intro F G h hg
   have one:∀ {R R':HV→Prop},resOne P s rv R→(∀ v,R v→R' v)→resOne P s rv R':=by
    intro R R' h hr;unfold resOne at h ⊢;split at h
    ·split at h
     ·exact hr _ h
     exact h.elim
    split at h
    ·exact loadK_mono h hr
    ·split at h
     ·exact ⟨h.1,loadK_mono h.2 hr⟩
     exact h.elim
    exact h.elim
   exact one h fun v hv=>ih hv fun hs=>hg _
 refine this hr fun hs' e=>?_;subst e;exact ⟨q,[],by rw [hj]; exact Conv.drop fun _ _ h=>(by cases h),rfl,hc,rfl⟩
end
theorem mc {α β:Type} {f:α→β} {a:α} {b:β} {l:List α} {m:List β} (h:f a=b) (h':l.map f=m):(a::l).map f=b::m:=by rw [List.map_cons,h,h']
def fits (k n:Nat):Prop:=n*k≤140737488355328∧n≤maxLen
instance (k n:Nat):Decidable (fits k n):=by unfold fits; infer_instance
section
variable {P:Program} {s:AS} {fid:Nat} {mt:List Nat} {o:Oper} {K:AS→Prop} {α:Type}
theorem op_appE (c:EncL α) {t xt e e2:TypeId} {a b a2 b2:Nat} {z z2:Value} {aa:Array Operand} {ts:Array TypeId} {x y:Operand} {Te:TyI} {l m:List α} {id ver:Nat} (hop:o.op=.call ⟨.builtin .append,aa,ts⟩) (has:aa.toList=[x,y]) (hts:ts.toList=[t,xt]) (hT:ty P t=some ⟨.slice e,a,b,z⟩) (hxt:ty P xt=some ⟨.slice e2,a2,b2,z2⟩) (hTe:ty P e=some Te)
  (hx:s.ev x=some (.ar id ver c.k 0 l.length)) (hg:hget s.heap id=some (ver,.arr c.k e (c.E l))) (hy:s.ev y=some (.sl c.k m.length (c.E m)))
  (hk:Te.size=c.k) (hz:(zcells Te.zero).any (fun zs=>zs.length == Te.size)=true) (h:fits Te.bytes (l.length+m.length))
  (k:∀ ver',K (({ s with heap:=hset s.heap id ver' (.arr c.k e (c.E (l++m))) }:AS).put o.dst (.ar id ver' c.k 0 (l++m).length))):aop P fid mt o K s:=by
 refine op_append (n:=l.length) (m:=m.length) (cs:=c.E l) (ds:=c.E m) hop has hts hT hx hy hTe hz ?_ ?_ h ?_
 ·simp only [abase,hg]
  refine ⟨trivial,hk.symm,trivial,trivial,?_,trivial,?_⟩
  ·rw [hk,c.len]; exact Nat.le_refl _
  rw [hk,c.take,List.take_length]
 ·simp only [asrc,hxt]
  exact ⟨hk.symm,trivial,trivial⟩
 rw [hk,← c.append,← List.length_append];exact k
end
section
variable {P:Program} {tx:TypeId} {k:IntKind} {a b:Int} {u v:List UInt8}
theorem b_add:abinT P .add tx (.int k a) (.int k b) (· = .int k (k.wrap (a+b))):=by simp only [abinT,abin,and_self]
theorem b_sub:abinT P .sub tx (.int k a) (.int k b) (· = .int k (k.wrap (a - b))):=by simp only [abinT,abin,and_self]
theorem b_mul:abinT P .mul tx (.int k a) (.int k b) (· = .int k (k.wrap (a*b))):=by simp only [abinT,abin,and_self]
theorem b_quo (h:b≠0):abinT P .quo tx (.int k a) (.int k b) (· = .int k (k.wrap (a.tdiv b))):=by simp only [abinT,abin,and_self,and_true,true_and]; exact h
theorem b_eql:abinT P .eql tx (.int k a) (.int k b) (· = .bool (decide (a=b))):=by simp only [abinT,abin,and_self]
theorem b_neq:abinT P .neq tx (.int k a) (.int k b) (· = .bool (decide (a≠b))):=by simp only [abinT,abin,and_self]
theorem b_lss:abinT P .lss tx (.int k a) (.int k b) (· = .bool (decide (a<b))):=by simp only [abinT,abin,and_self]
theorem b_leq:abinT P .leq tx (.int k a) (.int k b) (· = .bool (decide (a≤b))):=by simp only [abinT,abin,and_self]
theorem b_gtr:abinT P .gtr tx (.int k a) (.int k b) (· = .bool (decide (b<a))):=by simp only [abinT,abin,and_self]
theorem b_geq:abinT P .geq tx (.int k a) (.int k b) (· = .bool (decide (b≤a))):=by simp only [abinT,abin,and_self]
theorem b_aeql {xs ys:List HV} {l1 l2:List Lit} {p:Prop} [Decidable p] (h1:hkey P 5 tx xs=some l1) (h2:hkey P 5 tx ys=some l2) (hc:P.eqGuardType P.depth tx=false∧P.keyTypeAt 5 tx=true∧structT P tx=true) (hp:p↔l1=l2) :
  abinT P .eql tx (.agg xs) (.agg ys) (· = .bool (decide p)):=by
 simp only [abinT,h1,h2];exact ⟨hc,decide p,by rw [decide_eq_true_iff]; exact hp,rfl⟩
theorem b_aneq {xs ys:List HV} {l1 l2:List Lit} {p:Prop} [Decidable p] (h1:hkey P 5 tx xs=some l1) (h2:hkey P 5 tx ys=some l2) (hc:P.eqGuardType P.depth tx=false∧P.keyTypeAt 5 tx=true∧structT P tx=true) (hp:p↔l1=l2) :
  abinT P .neq tx (.agg xs) (.agg ys) (· = .bool (!decide p)):=by
 simp only [abinT,h1,h2];exact ⟨hc,decide p,by rw [decide_eq_true_iff]; exact hp,rfl⟩
theorem b_sadd (h:u.length+v.length≤maxLen):abinT P .add tx (.str u) (.str v) (· = .str (u++v)):=by simp only [abinT,abin,and_true]; exact h
theorem b_sneq:abinT P .neq tx (.str u) (.str v) (· = .bool (decide (u≠v))):=by simp only [abinT,abin]
end
abbrev eInt:EncL Int:=encM (HV.int .i64)
abbrev eStr:EncL (List UInt8):=encM HV.str
abbrev eSl {α:Type} (c:EncL α):EncL (List α):=encM (slE c)
section
variable {P:Program} {ro:Option Nat} {N:Nat} {all:Array Oper} {s:AS}
def bops (P:Program) (ro:Option Nat) (N:Nat) (all:Array Oper) (l:List Oper) (K:AS→Prop) (s:AS):Prop :=
 all.toList.all (fun o=>okd N o.dst)=true→∀ i,(∀ k,l[k]?=all[i+k]?)→AOps P ro N all (List.range' i l.length) K s
theorem AOps.le {is:List Nat} {K:AS→Prop} {s':AS} (hl:s.le s') (h:AOps P ro N all is K s'):AOps P ro N all is K s :=
 fun w0 μ0 μ a w Q hs hE hK=>h w0 μ0 _ a w Q (hs.weaken hl) (hE.trans (Evo.cut w μ s'.heap)) hK
theorem bops_le {l:List Oper} {K:AS→Prop} {s':AS} (hl:s.le s') (h:bops P ro N all l K s'):bops P ro N all l K s:=fun hok i hi=>(h hok i hi).le hl
theorem put_le (d:Nat) (v:HV):(s.put (some d) v).le ⟨(d,v)::s.slots,s.heap⟩:=by
 refine ⟨fun t hv ht=>?_,fun _ _ h=>h⟩;simp only [sget] at ht;simp only [AS.put,sget_sset];exact ht
theorem putH_le (id ver:Nat) (o:AObj) (d:Nat) (v:HV):(({ s with heap:=hset s.heap id ver o }:AS).put (some d) v).le ⟨(d,v)::s.slots,(id,ver,o)::s.heap⟩:=by
 refine ⟨fun t hv ht=>?_,fun i x hx=>?_⟩
 ·simp only [sget] at ht
  simp only [AS.put,sget_sset];exact ht
 simp only [hget] at hx;simp only [AS.put,hget_hset];exact hx
theorem putN_le (id ver:Nat) (o:AObj) (v:HV):(({ s with heap:=hset s.heap id ver o }:AS).put none v).le ⟨s.slots,(id,ver,o)::s.heap⟩:=by
 refine ⟨fun t hv ht=>ht,fun i x hx=>?_⟩;simp only [hget] at hx;simp only [AS.put,hget_hset];exact hx
theorem arl {id ver k n m:Nat} (h:n=m):some (HV.ar id ver k 0 n)=some (HV.ar id ver k 0 m):=by rw [h]
theorem hle {H:Heap} {i v:Nat} {o o':AObj} (h:hget H i=some (v,o)) (e:o=o'):hget H i=some (v,o'):=by rw [h,e]
theorem b_nil {K:AS→Prop} (h:K s):bops P ro N all [] K s:=fun _ _ _=>AOps.nil h
def gets (s:List (Nat × HV)):List (Nat × HV)→List (Option HV)
 | []=>[]
 | p::l=>sget s p.1::gets s l
def somes:List (Nat × HV)→List (Option HV)
 | []=>[]
 | p::l=>some p.2::somes l
def hgets (h:Heap):Heap→List (Option (Nat × AObj))
 | []=>[]
 | p::l=>hget h p.1::hgets h l
def hsomes:Heap→List (Option (Nat × AObj))
 | []=>[]
 | p::l=>some p.2::hsomes l
theorem leS_q {s:List (Nat × HV)}:∀ {l:List (Nat × HV)},gets s l=somes l→leS s l
 | [],_=>trivial
 | (i,h)::l,e=>⟨(List.cons.inj e).1,leS_q (List.cons.inj e).2⟩
theorem leH_q {h:Heap}:∀ {l:Heap},hgets h l=hsomes l→leH h l
 | [],_=>trivial
 | (i,x)::l,e=>⟨(List.cons.inj e).1,leH_q (List.cons.inj e).2⟩
theorem le_q {s s':AS} (h1:gets s.slots s'.slots=somes s'.slots) (h2:hgets s.heap s'.heap=hsomes s'.heap):s.le s':=AS.le_of (leS_q h1) (leH_q h2)
theorem b_fin {c:Code} {Q:Exit→AS→Prop} {K:AS→Prop} (hK:∀ s',AW P ro N c Q s'→K s') {s':AS} (hl:s.le s') (h:AW P ro N c Q s'):bops P ro N all [] K s:=b_nil (hK _ (AW.to (to_le hl h)))
variable {rest:List Oper} {o:Oper} {K:AS→Prop} {fid:Nat} {mt:List Nat} {sl:List (Nat × HV)} {H:Heap}
theorem b_step {i:Nat} (hok:all.toList.all (fun o=>okd N o.dst)=true) (hl:∀ k,(o::rest)[k]?=all[i+k]?):all[i]?=some o∧okd N o.dst=true∧∀ k,rest[k]?=all[i+1+k]?:=by
 have ho:all[i]?=some o:=by have:=hl 0; simpa using this.symm
 refine ⟨ho,List.all_eq_true.1 hok o (by
  have:=Array.getElem?_toList (xs:=all) (i:=i);rw [ho] at this
  exact List.mem_of_getElem? this),fun k=>?_⟩
 have:=hl (k+1);rw [List.getElem?_cons_succ] at this;rw [this]; congr 1; omega
theorem b_op (hg:o.guard=none) (h:aop P fid mt o (fun s'=>bops P ro N all rest K s') ⟨sl,H⟩):bops P ro N all (o::rest) K ⟨sl,H⟩:=by
 intro hok i hl;obtain ⟨ho,hN,hl'⟩:=b_step hok hl;rw [List.length_cons,List.range'_succ]
 refine AOps.cons ho hg fun w0 μ0 μ a w next Q hs hE hK=>?_
 exact aop_sound (ro:=ro) hN h w0 μ0 μ a w next Q hs hE fun μ' s' a' w' hk hs' hE'=>hK μ' s' a' w' (hk hok (i+1) hl') hs' hE'
theorem b_T {j d:Nat} {oj:Oper} {want b:Bool} (hg:o.guard=some (j,want)) (hj:all[j]?=some oj) (hd:oj.dst=some d) (hb:sget sl d=some (.bool b)) (hw:b=want) (h:aop P fid mt o (fun s'=>bops P ro N all rest K s') ⟨(d,.bool want)::sl,H⟩):bops P ro N all (o::rest) K ⟨sl,H⟩:=by
 intro hok i hl;obtain ⟨ho,hN,hl'⟩:=b_step hok hl;rw [List.length_cons,List.range'_succ];refine AOps.guard ho hN hg hj hd hb (fun e=>?_) (fun e=>by rw [hw] at e; cases want <;> cases e)
 have hs0:AOp P ro N o (AOps P ro N all (List.range' (i+1) rest.length) K) ⟨(d,.bool want)::sl,H⟩:=fun w0 μ0 μ a w next Q hs hE hK =>
  aop_sound (ro:=ro) hN h w0 μ0 μ a w next Q hs hE fun μ' s' a' w' hk hs' hE'=>hK μ' s' a' w' (hk hok (i+1) hl') hs' hE'
 intro w0 μ0 μ a w next Q hs hE hK
 exact hs0 w0 μ0 _ a w next Q (hs.weaken (put_le (s:=⟨sl,H⟩) d _)) (hE.trans (Evo.cut w μ _)) hK
theorem b_F {j d:Nat} {oj:Oper} {want b:Bool} {d':Nat} (hg:o.guard=some (j,want)) (hd':o.dst=some d') (hj:all[j]?=some oj) (hd:oj.dst=some d) (hb:sget sl d=some (.bool b)) (hw:b = !want) (h:bops P ro N all rest K ⟨(d',.v undef)::(d,.bool !want)::sl,H⟩):bops P ro N all (o::rest) K ⟨sl,H⟩:=by
 intro hok i hl;obtain ⟨ho,hN,hl'⟩:=b_step hok hl;rw [List.length_cons,List.range'_succ];refine AOps.guard ho hN hg hj hd hb (fun e=>by rw [hw] at e; cases want <;> cases e) (fun e=>?_);have h2:=h hok (i+1) hl';subst hw;rw [hd'];refine AOps.le (s':=⟨(d',.v undef)::(d,.bool !want)::sl,H⟩) ⟨fun t hv ht=>?_,fun _ _ h=>h⟩ h2;simp only [sget] at ht;simp only [AS.put,sget_sset];exact ht
theorem b_U {j d:Nat} {oj:Oper} {want:Bool} {d':Nat} (hg:o.guard=some (j,want)) (hd':o.dst=some d') (hj:all[j]?=some oj) (hd:oj.dst=some d) (hb:sget sl d=some (.v undef)) (h:bops P ro N all rest K ⟨(d',.v undef)::sl,H⟩):bops P ro N all (o::rest) K ⟨sl,H⟩:=by
 intro hok i hl;obtain ⟨ho,hN,hl'⟩:=b_step hok hl;rw [List.length_cons,List.range'_succ];refine AOps.guardU ho hN hg hj hd hb ?_;rw [hd'];exact (h hok (i+1) hl').le (put_le (s:=⟨sl,H⟩) d' _)
def mvOf:Op→Option Operand
 | .move x=>some x
 | .assign x=>some x
 | _=>none
theorem mv_val {op:Op} {x:Operand} {hv:HV} (h:mvOf op=some x) (hx:s.ev x=some hv):isVal op=true∧aval P op s (· = hv):=by
 unfold mvOf at h;split at h
 ·cases h; exact ⟨rfl,v_move hx⟩
 ·cases h; exact ⟨rfl,v_assign hx⟩
 cases h
theorem o_val {d:Nat} {hv:HV} (h0:(o.dst,isVal o.op)=(some d,true)) (h:aval P o.op ⟨sl,H⟩ (· = hv)) (k:bops P ro N all rest K ⟨(d,hv)::sl,H⟩):aop P 0 [] o (fun s'=>bops P ro N all rest K s') ⟨sl,H⟩:=by
 obtain ⟨h1,h2⟩:=Prod.mk.inj h0;refine op_val h2 h ?_;rw [h1];exact bops_le (put_le (s:=⟨sl,H⟩) d hv) k
theorem bv {d:Nat} {hv:HV} (h0:(o.guard,o.dst,isVal o.op)=(none,some d,true)) (h:aval P o.op ⟨sl,H⟩ (· = hv)) (k:bops P ro N all rest K ⟨(d,hv)::sl,H⟩):bops P ro N all (o::rest) K ⟨sl,H⟩:=by
 obtain ⟨h1,h2⟩:=Prod.mk.inj h0;exact b_op h1 (o_val h2 h k)
theorem mv {d:Nat} {x:Operand} {hv:HV} (h0:(o.guard,o.dst,mvOf o.op)=(none,some d,some x)) (hx:(⟨sl,H⟩:AS).ev x=some hv) (k:bops P ro N all rest K ⟨(d,hv)::sl,H⟩):bops P ro N all (o::rest) K ⟨sl,H⟩:=by
 obtain ⟨h1,h2⟩:=Prod.mk.inj h0;obtain ⟨h3,h4⟩:=Prod.mk.inj h2;obtain ⟨h5,h6⟩:=mv_val h4 hx;exact b_op h1 (o_val (by rw [h3,h5]) h6 k)
theorem o_box {d:Nat} {e:TypeId} {x:Operand} {hv:HV} {cs:List HV} (h0:(o.dst,o.op)=(some d,.box e x)) (hx:(⟨sl,H⟩:AS).ev x=some hv) (hc:hv.cells?=some cs) (k:bops P ro N all rest K ⟨(d,.fptr cs 0)::sl,H⟩):aop P 0 [] o (fun s'=>bops P ro N all rest K s') ⟨sl,H⟩:=by
 obtain ⟨h1,h2⟩:=Prod.mk.inj h0;refine op_box h2 hx hc (by rw [h1]; rfl) ?_;rw [h1];exact bops_le (put_le (s:=⟨sl,H⟩) d _) k
theorem o_alloc {d:Nat} {e:TypeId} {T:TyI} {zs:List HV} (id:Nat) (h0:(o.dst,o.op)=(some d,.alloc e)) (hid:fid*1000+d=id) (hT:ty P e=some T) (hz:zcells T.zero=some zs) (k:∀ ver,bops P ro N all rest K ⟨(d,.ptr id ver 0)::sl,(id,ver,.arr zs.length e zs)::H⟩):aop P fid [] o (fun s'=>bops P ro N all rest K s') ⟨sl,H⟩:=by
 obtain ⟨h1,h2⟩:=Prod.mk.inj h0;refine op_alloc h2 hT hz fun ver=>?_;rw [h1];have:cid fid (some d)=id:=hid;rw [this];exact bops_le (putH_le (s:=⟨sl,H⟩) id ver _ d _) (k ver)
theorem o_store {t:TypeId} {x y:Operand} {id ver off k:Nat} {e:TypeId} {hv:HV} {T:TyI} {cs xs zs:List HV} (h0:(o.dst,o.op)=(none,.store t x y)) (hx:(⟨sl,H⟩:AS).ev x=some (.ptr id ver off)) (hy:(⟨sl,H⟩:AS).ev y=some hv) (hT:ty P t=some T) (hc:hv.cells?=some cs)
  (hg:hget H id=some (ver,.arr k e xs)) (h1:T.size=cs.length) (h2:Nat.ble (off+cs.length) xs.length=true) (hz:splice xs off cs=zs) (kk:bops P ro N all rest K ⟨sl,(id,ver,.arr k e zs)::H⟩):aop P 0 [] o (fun s'=>bops P ro N all rest K s') ⟨sl,H⟩:=by
 obtain ⟨h3,h4⟩:=Prod.mk.inj h0;refine op_store h4 hx hy hT hc hg h1 (Nat.le_of_ble_eq_true h2) ?_;rw [h3,hz];exact bops_le (putN_le (s:=⟨sl,H⟩) id ver _ _) kk
theorem o_storeE {α:Type} (c:EncL α) {t:TypeId} {x y:Operand} {id ver:Nat} {e:TypeId} {hv:HV} {T:TyI} {l:List α} {j:Int} {v:α} (h0:(o.dst,o.op)=(none,.store t x y)) (hx:(⟨sl,H⟩:AS).ev x=some (.ptr id ver (j.toNat*c.k))) (hy:(⟨sl,H⟩:AS).ev y=some hv) (hT:ty P t=some T) (hc:hv.cells?=some (c.C v))
  (hg:hget H id=some (ver,.arr c.k e (c.E l))) (h1:T.size=c.k) (hj:0≤j∧j<l.length) (kk:bops P ro N all rest K ⟨sl,(id,ver,.arr c.k e (c.E (l.set j.toNat v)))::H⟩):aop P 0 [] o (fun s'=>bops P ro N all rest K s') ⟨sl,H⟩:=by
 obtain ⟨h3,h4⟩:=Prod.mk.inj h0;refine op_storeE c h4 hx hy hT hc hg h1 hj ?_;rw [h3];exact bops_le (putN_le (s:=⟨sl,H⟩) id ver _ _) kk
theorem o_bsl {d:Nat} {t:TypeId} {n k:Nat} {e:TypeId} {ps:Array (Nat × Operand)} {cs:List HV} (h0:(o.dst,o.op)=(some d,.buildSlice t n ps)) (hn:(Nat.ble n 16777216 && !(n == 0))=true) (h:aslice P ⟨sl,H⟩ t n ps.toList fun k' e' cs'=>k'=k∧e'=e∧cs'=cs) (kk:bops P ro N all rest K ⟨(d,.sl k n cs)::sl,H⟩):aop P 0 [] o (fun s'=>bops P ro N all rest K s') ⟨sl,H⟩:=by
 obtain ⟨h1,h2⟩:=Prod.mk.inj h0;simp only [Bool.and_eq_true,Bool.not_eq_true'] at hn;refine op_bsl h2 hn.1 (by rw [h1,hn.2]; rfl) h ?_;rw [h1];exact bops_le (put_le (s:=⟨sl,H⟩) d _) kk
theorem o_bslM {d:Nat} {t:TypeId} {n k:Nat} {e:TypeId} {ps:Array (Nat × Operand)} {cs:List HV} (id:Nat) (h0:(o.dst,o.op)=(some d,.buildSlice t n ps)) (hid:fid*1000+d=id) (hn:Nat.ble n 16777216=true) (h:aslice P ⟨sl,H⟩ t n ps.toList fun k' e' cs'=>k'=k∧e'=e∧cs'=cs)
  (kk:∀ ver,bops P ro N all rest K ⟨(d,.ar id ver k 0 n)::sl,(id,ver,.arr k e cs)::H⟩):aop P fid [d] o (fun s'=>bops P ro N all rest K s') ⟨sl,H⟩:=by
 obtain ⟨h1,h2⟩:=Prod.mk.inj h0;refine op_bslM h2 hn (by rw [h1]; simp [isMut,inL]) h fun ver=>?_;rw [h1];have:cid fid (some d)=id:=hid;rw [this];exact bops_le (putH_le (s:=⟨sl,H⟩) id ver _ d _) (kk ver)
theorem o_makeE {α:Type} (en:EncL α) (z0:α) {d:Nat} {t e:TypeId} {a b:Nat} {z:Value} {x y:Operand} {l c:Int} {Te:TyI} (id:Nat) (h0:(o.dst,o.op)=(some d,.makeSlice t x y)) (hid:fid*1000+d=id) (hT:ty P t=some ⟨.slice e,a,b,z⟩) (hx:(⟨sl,H⟩:AS).ev x=some (.int .i64 l)) (hy:(⟨sl,H⟩:AS).ev y=some (.int .i64 c)) (hTe:ty P e=some Te) (hz:zcells Te.zero=some (en.C z0))
  (h1:Te.size=en.k) (h2:0≤l∧l≤c∧c*Te.bytes≤281474976710656) (k:∀ ver,bops P ro N all rest K ⟨(d,.ar id ver en.k 0 (List.replicate l.toNat z0).length)::sl,(id,ver,.arr en.k e (en.E (List.replicate l.toNat z0)))::H⟩):aop P fid [] o (fun s'=>bops P ro N all rest K s') ⟨sl,H⟩:=by
 obtain ⟨h3,h4⟩:=Prod.mk.inj h0;refine op_makeE en z0 h4 hT hx hy hTe hz h1 h2 fun ver=>?_;rw [h3];have:cid fid (some d)=id:=hid;rw [this];exact bops_le (putH_le (s:=⟨sl,H⟩) id ver _ d _) (k ver)
section
variable {α:Type} (c:EncL α) {d:Nat} {t xt e e2:TypeId} {a b a2 b2:Nat} {z z2:Value} {aa:Array Operand} {ts:Array TypeId} {x y:Operand} {Te:TyI} {l m:List α} {id ver id2 ver2:Nat} {e3:TypeId}
theorem o_appE (h0:(o.dst,o.op)=(some d,.call ⟨.builtin .append,aa,ts⟩)) (ha:(aa.toList,ts.toList)=([x,y],[t,xt])) (hT:ty P t=some ⟨.slice e,a,b,z⟩) (hxt:ty P xt=some ⟨.slice e2,a2,b2,z2⟩) (hTe:ty P e=some Te)
  (hx:(⟨sl,H⟩:AS).ev x=some (.ar id ver c.k 0 l.length)) (hg:hget H id=some (ver,.arr c.k e (c.E l))) (hy:(⟨sl,H⟩:AS).ev y=some (.sl c.k m.length (c.E m)))
  (hk:Te.size=c.k) (hz:(zcells Te.zero).any (fun zs=>zs.length == Te.size)=true) (h:fits Te.bytes (l.length+m.length))
  (k:∀ ver',bops P ro N all rest K ⟨(d,.ar id ver' c.k 0 (l++m).length)::sl,(id,ver',.arr c.k e (c.E (l++m)))::H⟩):aop P 0 [] o (fun s'=>bops P ro N all rest K s') ⟨sl,H⟩:=by
 obtain ⟨h3,h4⟩:=Prod.mk.inj h0;obtain ⟨h5,h6⟩:=Prod.mk.inj ha;refine op_appE c h4 h5 h6 hT hxt hTe hx hg hy hk hz h fun ver'=>?_;rw [h3];exact bops_le (putH_le (s:=⟨sl,H⟩) id ver' _ d _) (k ver')
end
theorem o_call {d:Nat} {aa:Array Operand} {ts:Array TypeId} {f:Operand} {g:FuncId} {fs hs cs args:List HV} {q:HV} (h0:(o.dst,o.op)=(some d,.call ⟨.value f,aa,ts⟩)) (hf:(⟨sl,H⟩:AS).ev f=some (.fn (.func g) fs cs)) (ha:aa.toList.mapM (⟨sl,H⟩:AS).ev=some hs) (hargs:fs++hs++cs=args)
  (h:ACallD P g args H q) (k:bops P ro N all rest K ⟨(d,q)::sl,H⟩):aop P 0 [] o (fun s'=>bops P ro N all rest K s') ⟨sl,H⟩:=by
 obtain ⟨h1,h2⟩:=Prod.mk.inj h0;refine op_callD h2 hf ha hargs h ?_;rw [h1];exact bops_le (put_le (s:=⟨sl,H⟩) d _) k
theorem o_build {d:Nat} {t:TypeId} {ps:Array (Nat × Operand)} {cs:List HV} (h0:(o.dst,o.op)=(some d,.build t ps)) (h:abuild P ⟨sl,H⟩ t ps.toList (· = .agg cs)) (k:bops P ro N all rest K ⟨(d,.agg cs)::sl,H⟩):aop P 0 [] o (fun s'=>bops P ro N all rest K s') ⟨sl,H⟩:=by
 obtain ⟨h1,h2⟩:=Prod.mk.inj h0;refine op_build h2 h ?_;rw [h1];exact bops_le (put_le (s:=⟨sl,H⟩) d _) k
theorem AW.rg {id:Nat} {ops:Array Oper} {Q:Exit→AS→Prop} (hok:ops.toList.all (fun o=>okd N o.dst)=true) (h:∀ K:AS→Prop,(∀ s',Q .normal s'→K s')→bops P ro N ops ops.toList K s):AW P ro N (.region id ops false) Q s:=by
 intro w0 μ0 μ a w hs hE;have hso:=h (fun s'=>Q .normal s') (fun _ h=>h) hok 0 (fun k=>by simp);refine wpIn_region ?_;rw [List.range_eq_range',← Array.length_toList];refine hso w0 μ0 μ a w _ hs hE fun μ' s' a' w' hk hs' hE'=>?_;exact ⟨(fun _ h=>by cases h),(fun h=>by cases h),_,_,hk,hs',hE'⟩
theorem AW.rgs {id:Nat} {ops:Array Oper} {y:Code} {Q:Exit→AS→Prop} (hok:ops.toList.all (fun o=>okd N o.dst)=true) (h:∀ K:AS→Prop,(∀ s',AW P ro N y Q s'→K s')→bops P ro N ops ops.toList K s):AW P ro N (.seq (.region id ops false) y) Q s :=
 AW.seq (AW.rg hok h)
theorem ev_eqv {s':AS} (h:s.eqv s'):s'.ev=s.ev:=by
 funext x
 cases x with
 | tmp t=>exact h.2 t
 | _=>rfl
theorem aopS_eqv {o:Oper} {R:HV→Prop} {s':AS} (h:s.eqv s') (hp:aopS P o R s'):aopS P o R s:=by
 have he:=ev_eqv h;have hh:=h.1;unfold aopS at hp ⊢;split at hp
 ·rw [he] at hp; exact hp
 ·refine ⟨hp.1,?_⟩
  rw [← aslice_congr (s':=s') (s:=s) fun p _=>by rw [he]];exact hp.2
 ·rw [← abuild_congr (s':=s') (s:=s) fun p _=>by rw [he]]
  exact hp
 ·rw [he,hh] at hp; exact hp
 ·obtain ⟨hv,h1,h2⟩:=hp
  exact ⟨hv,h1,fun ro N s2 hN h3 h4 K hK=>h2 ro N s2 hN (h3.trans hh.symm) (fun x hx=>by rw [h4 x hx,he]) K hK⟩
 rw [aval_congr (s':=s') (s:=s) hh fun x _=>by rw [he]] at hp;exact hp
theorem aopS_mono {o:Oper} {R R':HV→Prop} (h:aopS P o R s) (hr:∀ v,R v→R' v):aopS P o R' s:=by
 unfold aopS at h ⊢;split at h
 ·split at h
  ·split at h
   ·exact hr _ h
   exact h.elim
  exact h.elim
 ·exact ⟨h.1,aslice_mono h.2 fun _ _ _=>hr _⟩
 ·obtain ⟨cs,h1,h2⟩:=abuild_det h
  exact h2 _ (hr _ h1)
 ·split at h
  ·obtain ⟨v,h1,h2⟩:=h
   exact ⟨v,h1,hr _ h2⟩
  exact h.elim
 ·obtain ⟨v,h1,h2⟩:=h
  exact ⟨v,hr _ h1,h2⟩
 exact aval_mono h hr
def Eqc (K:AS→Prop):Prop:=∀ s s':AS,s.eqv s'→K s'→K s
theorem asteps_eqv {al:List Oper} (hK:Eqc K):∀ (l:List Oper) (s s':AS),s.eqv s'→asteps P al l K s'→asteps P al l K s
 | [],s,s',h,hp=>hK s s' h hp
 | o :: l,s,s',h,hp=>by
  simp only [asteps] at hp ⊢;split at hp
  ·exact aopS_mono (aopS_eqv h hp) fun v hv=>asteps_eqv hK l _ _ (h.put o.dst v) hv
  split at hp
  ·split at hp
   ·rename_i hd
    rw [h.2] at hp;split at hp
    ·split at hp
     ·rename_i hw
      rw [if_pos hw];exact aopS_mono (aopS_eqv (h.put _ _) hp) fun v hv=>asteps_eqv hK l _ _ ((h.put _ _).put o.dst v) hv
     rename_i hw
     rw [if_neg hw];exact asteps_eqv hK l _ _ ((h.put _ _).put _ _) hp
    ·exact ⟨hp.1,asteps_eqv hK l _ _ (h.put _ _) hp.2⟩
    exact hp.elim
   exact hp.elim
  exact hp.elim
structure stops (P:Program) (al l:List Oper) (K:AS→Prop) (s:AS):Prop where
 go:Eqc K→asteps P al l K s
theorem cons_eqv (d:Nat) (v:HV):(s.put (some d) v).eqv ⟨(d,v)::s.slots,s.heap⟩:=⟨rfl,fun t=>by simp only [AS.put,sget_sset,sget]⟩
variable {al:List Oper}
theorem s_nil (h:K s):stops P al [] K s:=⟨fun _=>h⟩
theorem s_op (hg:o.guard=none) {d:Nat} (hd:o.dst=some d) (h:aopS P o (fun v=>stops P al rest K ⟨(d,v)::sl,H⟩) ⟨sl,H⟩):stops P al (o::rest) K ⟨sl,H⟩:=stops.mk fun hK=>by
 simp only [asteps,hg];refine aopS_mono h fun v hv=>?_;rw [hd];exact asteps_eqv hK rest _ _ (cons_eqv d v) (hv.go hK)
theorem s_T {j d d':Nat} {oj:Oper} {want b:Bool} (hg:o.guard=some (j,want)) (hd':o.dst=some d') (hj:al[j]?=some oj) (hd:oj.dst=some d) (hb:sget sl d=some (.bool b)) (hw:b=want) (h:aopS P o (fun v=>stops P al rest K ⟨(d',v)::(d,.bool want)::sl,H⟩) ⟨(d,.bool want)::sl,H⟩):stops P al (o::rest) K ⟨sl,H⟩:=stops.mk fun hK=>by
 simp only [asteps,hg,hj,hd,hb,if_pos hw];refine aopS_mono (aopS_eqv (cons_eqv d _) h) fun v hv=>?_;rw [hd'];refine asteps_eqv hK rest _ _ (((cons_eqv d (.bool want)).put (some d') v).trans ?_) (hv.go hK);exact cons_eqv (s:=⟨(d,.bool want)::sl,H⟩) d' v
theorem s_F {j d d':Nat} {oj:Oper} {want b:Bool} (hg:o.guard=some (j,want)) (hd':o.dst=some d') (hj:al[j]?=some oj) (hd:oj.dst=some d) (hb:sget sl d=some (.bool b)) (hw:b = !want) (h:stops P al rest K ⟨(d',.v undef)::(d,.bool !want)::sl,H⟩):stops P al (o::rest) K ⟨sl,H⟩:=stops.mk fun hK=>by
 simp only [asteps,hg,hj,hd,hb];rw [if_neg (by rw [hw]; cases want <;> simp),hd'];subst hw;refine asteps_eqv hK rest _ _ (((cons_eqv d (.bool !want)).put (some d') (.v undef)).trans ?_) (h.go hK);exact cons_eqv (s:=⟨(d,.bool !want)::sl,H⟩) d' _
theorem sv {d:Nat} {hv:HV} (h0:(o.guard,o.dst,isVal o.op)=(none,some d,true)) (h:aval P o.op ⟨sl,H⟩ (· = hv)) (k:stops P al rest K ⟨(d,hv)::sl,H⟩):stops P al (o::rest) K ⟨sl,H⟩:=by
 obtain ⟨h1,h2⟩:=Prod.mk.inj h0;obtain ⟨h3,h4⟩:=Prod.mk.inj h2;exact s_op h1 h3 (ops_val h4 h k)
theorem sm {d:Nat} {x:Operand} {hv:HV} (h0:(o.guard,o.dst,mvOf o.op)=(none,some d,some x)) (hx:(⟨sl,H⟩:AS).ev x=some hv) (k:stops P al rest K ⟨(d,hv)::sl,H⟩):stops P al (o::rest) K ⟨sl,H⟩:=by
 obtain ⟨h1,h2⟩:=Prod.mk.inj h0;obtain ⟨h3,h4⟩:=Prod.mk.inj h2;obtain ⟨h5,h6⟩:=mv_val h4 hx;exact s_op h1 h3 (ops_val h5 h6 k)
theorem AOps.eqc {is:List Nat}:Eqc (AOps P ro N all is K):=fun s s' he h w0 μ0 μ a w Q hs hE hK=>h w0 μ0 μ a w Q (hs.eqv he) hE hK
theorem AW.dg {id:Nat} {ops:Array Oper} {Q:Exit→AS→Prop} (p:Nat) (hm:P.follows .mixedOrders=true) (hok:ops.toList.all (fun o=>okd N o.dst)=true) (hd:drawOk ops p=true)
  (h:∀ K:AS→Prop,(∀ s',Q .normal s'→K s')→stops P ops.toList (ops.toList.take p) (bops P ro N ops (ops.toList.drop p) K) s):AW P ro N (.region id ops true) Q s:=by
 refine AW.conseq (Q':=fun e s'=>e=.normal∧Q .normal s') (AW.drawX p (bops P ro N ops (ops.toList.drop p) (Q .normal)) hm hok hd (fun s1 h1=>?_) ((h (Q .normal) (fun _ h=>h)).go fun s s' he hp hok' i hi=>AOps.eqc s s' he (hp hok' i hi))) fun e s1 ⟨he,h⟩=>he ▸ ⟨s1,AS.le_refl s1,h⟩;have hso:=h1 hok p (fun k=>by rw [List.getElem?_drop,Array.getElem?_toList])
 have hld:(ops.toList.drop p).length=ops.size - p:=by simp
 rw [hld] at hso;intro w0 μ0 μ a w Q' hs hE hK;exact hso w0 μ0 μ a w Q' hs hE fun μ' s' a' w' hk hs' hE'=>hK μ' s' a' w' ⟨rfl,hk⟩ hs' hE'
theorem AW.dgs {id:Nat} {ops:Array Oper} {y:Code} {Q:Exit→AS→Prop} (p:Nat) (hm:P.follows .mixedOrders=true) (hok:ops.toList.all (fun o=>okd N o.dst)=true) (hd:drawOk ops p=true)
  (h:∀ K:AS→Prop,(∀ s',AW P ro N y Q s'→K s')→stops P ops.toList (ops.toList.take p) (bops P ro N ops (ops.toList.drop p) K) s):AW P ro N (.seq (.region id ops true) y) Q s :=
 AW.seq (AW.dg p hm hok hd h)
end
end Go.AW
namespace Go.AW
open Go
def forL {S α X:Type} (body:S→α→Option (Stp S X)):List α→S→Option (Ou S X)
 | [],s=>some (.go s)
 | x::l,s=>match body s x with
  | some (.next s')=>forL body l s'
  | some (.exit y)=>some (.ret y)
  | none=>none
def Yields (P:Program) (f:FuncId) (fs cs:List HV) (ys:List (List HV)):Prop :=
 ∀ (id ver:Nat) (H:Heap) (J:Nat→Heap→Prop) (Stop:Heap→Prop) (K:HV→Heap→Prop),(∀ i H H',J i H→(∀ j x,hget H j=some x→hget H' j=some x)→J i H')→J 0 H →
  (∀ i y H,ys[i]?=some y→J i H→YCall P id ver y H fun r H'=>∃ b,r=.bool b∧(b=true→J (i+1) H')∧(b=false→Stop H')) →
  (∀ H,J ys.length H→K (.tup []) H)→(∀ H,Stop H→K (.tup []) H)→ACall P f (fs++[.yl id ver]++cs) H K
theorem YCall.of {P:Program} {id ver fn n:Nat} {snap:List (Nat × HV)} {ps:Array Tmp} {assign body:Code} {hs:List HV} {H:Heap} {K:HV→Heap→Prop} (hg:hget H id=some (ver,.loop .ready none fn n snap ps assign body)) (hl:ps.size=hs.length) (hp:∀ p∈ps.toList,p<n)
  (h:∀ l,AW P (some l) n assign (fun e s1=>e=.normal∧hget s1.heap id=some (ver,.loop .ready none fn n snap ps assign body) ∧
   AW P (some l) n body (rndQ id ver fn n snap ps assign body K) { s1 with heap:=hset s1.heap id ver (.loop .busy none fn n snap ps assign body) }) { slots:=setPs snap ps.toList hs,heap:=H }):YCall P id ver hs H K :=
 ⟨fn,n,snap,ps,assign,body,hg,hl,hp,h⟩
section
variable {P:Program} {N:Nat} {Q:Exit→AS→Prop} {s:AS}
def rdQ (G J:AS→Prop) (c:Code):Exit→AS→Prop
 | .normal,s=>G s
 | .ret,s=>c=.ret∧J s
 | .exit i,s=>c=.exit i∧J s
 | _,_=>False
theorem hget_le {H H':Heap} (h:∀ i x,hget H' i=some x→hget H i=some x) {id ver:Nat} {o:AObj} (hn:hget H' id=none):∀ i x,hget H' i=some x→hget (hset H id ver o) i=some x:=fun i x hx=>by
 rw [hget_hset,if_neg (fun e=>by rw [e,hn] at hx; cases hx)];exact h i x hx
theorem AW.rangeY {S α X R V W:Type} {g:Operand} {ps:Array Tmp} {assign body c:Code} {f:FuncId} {fs cs:List HV} {mb:S→α→Option (Stp S X)} {L:List α} {M:S→Option R} {Mx:X→Option R} {s0:S} {r:R} {sl:List (Nat × HV)}
  (id:Nat) (ye:α→List HV) (h:lpO (forL mb L s0) M Mx=some r) (up:Up (Q .normal)) (hg:(⟨sl,[]⟩:AS).ev g=some (.fn (.func f) fs cs)) (hy:Yields P f fs cs (L.map ye))
  (St:S→V→Heap) (v0:V) (Sx:X→W→Heap) (hno:∀ a v,hget (St a v) id=none) (hnox:∀ a v,hget (Sx a v) id=none) (hps:(ps.toList.all fun p=>Nat.blt p N)=true) (hpl:∀ x,ps.size=(ye x).length)
  (kdone:∀ a v,M a=some r→Q .normal ⟨sl,St a v⟩) (kout:∀ x w,Mx x=some r→AW P none N c Q ⟨sl,Sx x w⟩)
  (round:∀ (Lo:LoopState→Option Code→AObj) (l ver:Nat) (a:S) (x:α) (v:V) (st:Stp S X),mb a x=some st →
   AW P (some l) N assign (fun e s1=>e=.normal∧hget s1.heap id=some (ver,Lo .ready none) ∧
    AW P (some l) N body (rdQ (fun s'=>∃ a' v',some (Stp.next a')=some st∧s'.le ⟨[],(id,ver,Lo .busy none)::St a' v'⟩) (fun s'=>∃ x' w,some (Stp.exit x')=some st∧s'.le ⟨[],(id,ver,Lo .busy none)::Sx x' w⟩) c)
     { s1 with heap:=hset s1.heap id ver (Lo .busy none) }) ⟨setPs sl ps.toList (ye x),(id,ver,Lo .ready none)::St a v⟩) :
  AW P none N (.rangeFunc g ps assign body) Q ⟨sl,St s0 v0⟩:=by
 have hg':(⟨sl,St s0 v0⟩:AS).ev g=some (.fn (.func f) fs cs):=by
  cases g <;> exact hg
 refine AW.rangeFunc id hg' fun fn ver=>?_;obtain ⟨Lo,hLo⟩:∃ Lo:LoopState→Option Code→AObj,∀ st p,Lo st p=.loop st p fn N sl ps assign body:=⟨_,fun _ _=>rfl⟩
 -- what the model comes to from a state on
 let J:Nat→Heap→Prop:=fun i H=>∃ a v,lpO (forL mb (L.drop i) a) M Mx=some r∧hget H id=some (ver,Lo .ready none)∧∀ j x,hget (St a v) j=some x→hget H j=some x;let Stop:Heap→Prop:=fun H=>∃ x w,Mx x=some r∧(hget H id=some (ver,Lo .done (some c)))∧∀ j y,hget (Sx x w) j=some y→hget H j=some y;refine hy id ver _ J Stop _ (fun i H H' ⟨a,v,h1,h2,h3⟩ hl=>⟨a,v,h1,hl _ _ h2,fun j x hx=>hl _ _ (h3 j x hx)⟩) ⟨s0,v0,by rw [List.drop_zero]; exact h,by rw [hget_hset,if_pos rfl,hLo],fun j x hx=>?_⟩ ?_ ?_ ?_
 ·exact hget_le (fun _ _ h=>h) (hno s0 v0) j x hx
 ·rintro i y H hyi ⟨a,v,hm,hlo,hle⟩
  rw [List.getElem?_map] at hyi
  cases hLi:L[i]? with
  | none=>rw [hLi] at hyi; cases hyi
  | some x =>
   rw [hLi] at hyi;cases hyi;have hi:=(List.getElem?_eq_some_iff.1 hLi).1
   have hx:L.drop i=x::L.drop (i+1):=by
    rw [List.drop_eq_getElem_cons hi]
    congr 1
    exact (List.getElem?_eq_some_iff.1 hLi).2
   rw [hx] at hm;simp only [forL] at hm
   have hmb:∃ st,mb a x=some st:=by
    cases hb:mb a x with
    | none=>rw [hb] at hm; cases hm
    | some st=>exact ⟨st,rfl⟩
   obtain ⟨st,hst⟩:=hmb;rw [hst] at hm;rw [hLo] at hlo
   refine YCall.of hlo (hpl x) (fun p hp=>by
    have:=List.all_eq_true.1 hps p hp
    exact (Nat.blt_eq ▸ this:_)) fun l=>?_
   have hr:=round Lo l ver a x v st hst;refine AW.weaken ?_ (s':=⟨setPs sl ps.toList (ye x),(id,ver,Lo .ready none)::St a v⟩) ⟨fun _ _ h=>h,fun j z hz=>?_⟩
   ·refine hr.mono ?_
    rintro e s1 ⟨he,h1,h2⟩
    rw [hLo] at h1;refine ⟨he,h1,?_⟩;rw [hLo] at h2;refine h2.mono ?_
    rintro e s' h
    cases e with
    | normal =>
     obtain ⟨a',v',he',hl⟩:=h;cases he';refine ⟨(hl.2 id _ (by simp only [hget,if_true])),true,rfl,fun _=>⟨a',v',hm,(by rw [hget_hset,if_pos rfl,hLo]),?_⟩,fun e=>(by cases e)⟩;refine hget_le (fun j z hz=>hl.2 j z ?_) (hno a' v');simp only [hget];rw [if_neg (fun e=>by rw [e,hno] at hz; cases hz)];exact hz
    | ret =>
     obtain ⟨hc,x',w,he',hl⟩:=h;cases he';refine ⟨(hl.2 id _ (by simp only [hget,if_true])),false,rfl,fun e=>(by cases e),fun _=>⟨x',w,hm,(by rw [hget_hset,if_pos rfl,hLo,hc]),?_⟩⟩;refine hget_le (fun j z hz=>hl.2 j z ?_) (hnox x' w);simp only [hget];rw [if_neg (fun e=>by rw [e,hnox] at hz; cases hz)];exact hz
    | exit i' =>
     obtain ⟨hc,x',w,he',hl⟩:=h;cases he';refine ⟨(hl.2 id _ (by simp only [hget,if_true])),false,rfl,fun e=>(by cases e),fun _=>⟨x',w,hm,(by rw [hget_hset,if_pos rfl,hLo,hc]),?_⟩⟩;refine hget_le (fun j z hz=>hl.2 j z ?_) (hnox x' w);simp only [hget];rw [if_neg (fun e=>by rw [e,hnox] at hz; cases hz)];exact hz
    | goto l=>exact h.elim
    | panic ch=>exact h.elim
    | outgrown=>exact h.elim
   simp only [hget] at hz;split at hz
   ·rename_i e
    subst e;cases hz;rw [hLo]; exact hlo
   exact hle j z hz
 ·rintro H ⟨a,v,hm,hlo,hle⟩
  rw [List.length_map,List.drop_length] at hm;refine ⟨.ready,none,by rw [← hLo]; exact hlo,by simp,?_⟩;refine up _ (to_le (s':=⟨sl,St a v⟩) ⟨fun _ _ h=>h,?_⟩ (kdone a v hm));exact hget_le hle (hno a v)
 rintro H ⟨x,w,hm,hlo,hle⟩
 refine ⟨.done,some c,by rw [← hLo]; exact hlo,by simp,?_⟩;refine AW.weaken (kout x w hm) ⟨fun _ _ h=>h,?_⟩;exact hget_le hle (hnox x w)
end
end Go.AW
namespace Go.AW
open Go
theorem ACall.freeze {P:Program} {f:FuncId} {args:List HV} {H:Heap} {K:HV→Heap→Prop} (n:Nat) (D H':Heap)
  (h:ACall P f args H fun r H1=>(∀ j x,hget H' j=some x→hget H1 j=some x)∧(∀ j x,hget D j=some x→hget H1 j=some x∧hget H' j=none)∧K (frz n D r) H'):ACall P f args H K:=by
 refine ⟨h.1,fun μ w vs hs hr hgl=>(h.2 μ w vs hs hr hgl).mono ?_⟩
 rintro e w' ⟨v,r,H1,μ',rfl,⟨h1,h2,k⟩,hs',hr',E⟩
 exact ⟨v,frz n D r,H',μ'.cut H',rfl,k,hs'.sub h1,frz_rep hs' h2 n r v hr',E.trans (Evo.cut w' μ' H')⟩
section
variable {P:Program} {ro:Option Nat} {N:Nat} {all:Array Oper} {rest:List Oper} {o:Oper} {K:AS→Prop} {sl:List (Nat × HV)} {H:Heap}
theorem o_yield {d:Nat} {aa:Array Operand} {ts:Array TypeId} {f:Operand} {id ver:Nat} {hs:List HV} (h0:(o.dst,o.op)=(some d,.call ⟨.value f,aa,ts⟩)) (hf:(⟨sl,H⟩:AS).ev f=some (.yl id ver)) (ha:aa.toList.mapM (⟨sl,H⟩:AS).ev=some hs)
  (h:YCall P id ver hs H fun r H'=>bops P ro N all rest K ⟨(d,r)::sl,H'⟩):aop P 0 [] o (fun s'=>bops P ro N all rest K s') ⟨sl,H⟩:=by
 obtain ⟨h1,h2⟩:=Prod.mk.inj h0;simp only [aop,h2,hf,ha];refine h.mono fun r H' hk=>?_;rw [h1];exact bops_le (put_le (s:=⟨sl,H'⟩) d r) hk
theorem fresh_id (H:Heap) (d:Nat):∃ f,hget H (f*1000+d)=none:=by
 have:∀ H:Heap,∃ m,∀ j,m≤j→hget H j=none:=by
  intro H
  induction H with
  | nil=>exact ⟨0,fun _ _=>rfl⟩
  | cons p H ih =>
   obtain ⟨i,v,ob⟩:=p;obtain ⟨m,hm⟩:=ih;refine ⟨max m (i+1),fun j hj=>?_⟩;simp only [hget];rw [if_neg (by omega)];exact hm j (by omega)
 obtain ⟨m,hm⟩:=this H;exact ⟨m,hm _ (by omega)⟩
theorem cons_le {H:Heap} {id ver:Nat} {ob:AObj} (hn:hget H id=none):∀ j x,hget H j=some x→hget ((id,ver,ob)::H) j=some x:=fun j x hx=>by
 simp only [hget];rw [if_neg (fun e=>by rw [e,hn] at hx; cases hx)];exact hx
theorem o_callK {d:Nat} {aa:Array Operand} {ts:Array TypeId} {f:Operand} {g:FuncId} {fs hs cs args:List HV} {q:HV} (H2:Heap) (h0:(o.dst,o.op)=(some d,.call ⟨.value f,aa,ts⟩)) (hf:(⟨sl,H⟩:AS).ev f=some (.fn (.func g) fs cs)) (ha:aa.toList.mapM (⟨sl,H⟩:AS).ev=some hs) (hargs:fs++hs++cs=args)
  (h:∀ K:HV→Heap→Prop,K q H2→ACall P g args H K) (k:bops P ro N all rest K ⟨(d,q)::sl,H2⟩):aop P 0 [] o (fun s'=>bops P ro N all rest K s') ⟨sl,H⟩:=by
 obtain ⟨h1,h2⟩:=Prod.mk.inj h0;refine op_call h2 hf ha hargs (h _ ?_);rw [h1];exact bops_le (put_le (s:=⟨sl,H2⟩) d q) k
theorem hset_le (H:Heap) (id ver:Nat) (ob:AObj) (sl:List (Nat × HV)):(⟨sl,hset H id ver ob⟩:AS).le ⟨sl,(id,ver,ob)::H⟩:=⟨fun _ _ h=>h,fun i x hx=>by
 simp only [hget] at hx;simp only [hget_hset]
 exact hx⟩
theorem o_sortI {d:Nat} {aa:Array Operand} {ts:Array TypeId} {f:Operand} {g:FuncId} {id ver:Nat} {e:TypeId} {l:List Int} (hS:SortsI P g) (h0:(o.dst,o.op)=(some d,.call ⟨.value f,aa,ts⟩)) (hf:(⟨sl,H⟩:AS).ev f=some (.fn (.func g) [] [])) (ha:aa.toList.mapM (⟨sl,H⟩:AS).ev=some [.ar id ver 1 0 l.length])
  (hg:hget H id=some (ver,.arr 1 e (l.map (.int .i64)))) (hl:l.length<4611686018427387904) (k:bops P ro N all rest K ⟨(d,.tup [])::sl,(id,ver,.arr 1 e ((sortI l).map (.int .i64)))::H⟩):aop P 0 [] o (fun s'=>bops P ro N all rest K s') ⟨sl,H⟩:=by
 obtain ⟨h1,h2⟩:=Prod.mk.inj h0;refine op_call h2 hf ha rfl (hS.arr H id ver e l _ hg hl ?_);rw [h1];exact bops_le (put_le (s:=⟨sl,hset H id ver _⟩) d _) (bops_le (hset_le H id ver _ _) k)
end
theorem SR.reobj {w:World} {μ:Mu} {H:Heap} (h:SR w μ H) {id ver:Nat} {o o':AObj} (hg:hget H id=some (ver,o)) (ho:∀ l,μ.loc id=some (ver,l)→OR w μ o l→OR w μ o' l):SR w μ (hset H id ver o') where
 ok:=h.ok
 has:=fun j v x hj=>by
  rw [hget_hset] at hj;split at hj
  ·rename_i e
   subst e;cases hj;obtain ⟨l,hl,hor⟩:=h.has j _ o hg;exact ⟨l,hl,ho l hl hor⟩
  exact h.has j v x hj
 only:=fun j x hj=>by
  rw [hget_hset];split
  ·exact ⟨_,rfl⟩
  exact h.only j x hj
 inj:=h.inj
 held:=h.held
theorem SR.le {w:World} {μ:Mu} {H H':Heap} (h:SR w μ H) (he:∀ j x,hget H' j=some x↔hget H j=some x):SR w μ H' where
 ok:=h.ok
 has:=fun j v x hj=>h.has j v x ((he j _).1 hj)
 only:=fun j x hj=>by
  obtain ⟨y,hy⟩:=h.only j x hj;exact ⟨y,(he j y).2 hy⟩
 inj:=h.inj
 held:=h.held
section
variable {s:AS} {G:AS→Prop}
theorem to_ownC (id oid over n i k:Nat) (e e':TypeId) {cells:List HV} (ho:hget s.heap oid=some (over,.arr n e' cells)) (hi:cells[i]?=some (.v (.slice none 0 0))) (hne:oid≠id)
  (h:∀ ver,G { slots:=s.slots,heap:=(id,ver,.arr k e [])::(oid,over,.arr n e' (cells.set i (.ar id ver k 0 0)))::s.heap }):s.to G:=by
 intro ro N B μ a w hs;have hE1:Evo w μ w (μ.set id none):=Evo.repl hs.sr id none (Same.refl w) (Nat.le_refl _) (fun _ _ _=>rfl) (fun b hb=>by cases hb);have hsr:SR w (μ.set id none) (hset s.heap id μ.nx (.arr k e [])):=hs.sr.repl id none _ (Same.refl w) (Nat.le_refl _) (fun _ _ _=>rfl) (fun b hb=>by cases hb) rfl
 have hg:hget (hset s.heap id μ.nx (.arr k e [])) oid=some (over,.arr n e' cells):=by rw [hget_hset,if_neg hne]; exact ho
 have hsr2:=hsr.reobj (o':=.arr n e' (cells.set i (.ar id μ.nx k 0 0))) hg (fun l hl hor=>by
  cases l with
  | none =>
   have:cells=[]:=hor;rw [this] at hi;cases hi
  | some b =>
   obtain ⟨h0,cur,vs,rest,hrow,hcl,hrl⟩:=hor;refine ⟨h0.set rfl i,cur,vs,rest,hrow,hcl,?_⟩;obtain ⟨x,hx,hxr⟩:=hrl.get hi;have hset:=RepL.set hrl (c:=.ar id μ.nx k 0 0) (x:=x) (.inl ⟨none,by simp [Mu.set],.inl ⟨rfl,hxr,rfl,rfl⟩⟩) i
   have hvs:vs.set i x=vs:=by
    apply List.ext_getElem?;intro j;rw [List.getElem?_set];split
    ·rename_i e
     subst e;split
     ·exact hx.symm
     rename_i hlt
     rw [List.getElem?_eq_none (by omega)]
    rfl
   rw [hvs] at hset
   exact hset)
 refine ⟨μ.set id none,_,h μ.nx,⟨hs.size,hsr2.le fun j x=>?_,fun t hv ht=>⟨(hs.slot t hv ht).1,Rep.evo hE1 hs.sr.ok _ _ (hs.slot t hv ht).2⟩,hs.marks.evo hE1,hs.ro.evo hE1⟩,hE1⟩;simp only [hget,hget_hset];by_cases h1:j=id
 ·subst h1
  rw [if_pos rfl,if_neg (Ne.symm hne),if_pos rfl]
 rw [if_neg h1];by_cases h2:j=oid
 ·rw [if_pos h2,if_pos h2]
 rw [if_neg h2,if_neg h2,if_neg h1]
end
end Go.AW
namespace Go.AW
open Go
theorem ACall.conv' {P:Program} {f:FuncId} {args:List HV} {H:Heap} {K K':HV→Heap→Prop} (h:ACall P f args H K) (hc:∀ r H',K r H'→∃ r2 H2,Conv H' r r2 H2∧K' r2 H2):ACall P f args H K':=by
 refine ⟨h.1,fun μ w vs hs hr hgl=>(h.2 μ w vs hs hr hgl).mono ?_⟩
 rintro e w' ⟨v,r,H',μ',rfl,hk,hs',hr',E⟩
 obtain ⟨r2,H2,hcv,hk2⟩:=hc r H' hk;obtain ⟨μ2,hs2,hr2,E2⟩:=hcv w' μ' v hs' hr';exact ⟨v,r2,H2,μ2,rfl,hk2,hs2,hr2,E.trans E2⟩
section
variable {P:Program} {ro:Option Nat} {N:Nat} {s:AS} {ops:Array Oper} {o:Oper} {sl:List (Nat × HV)} {H:Heap}
theorem AnyAt.eqc {Q:Exit→AS→Prop} {q:Nat}:Eqc (AnyAt P ro N ops Q q):=fun s s' he h w0 μ0 fuel listed μ1 a1 w1 h1 h2 h3 hs hE=>h w0 μ0 fuel listed μ1 a1 w1 h1 h2 h3 (hs.eqv he) hE
theorem o_callA {all:Array Oper} {rest:List Oper} {K:AS→Prop} {d:Nat} {aa:Array Operand} {ts:Array TypeId} {f:Operand} {g:FuncId} {fs hs cs args:List HV} (h0:(o.dst,o.op)=(some d,.call ⟨.value f,aa,ts⟩)) (hf:(⟨sl,H⟩:AS).ev f=some (.fn (.func g) fs cs)) (ha:aa.toList.mapM (⟨sl,H⟩:AS).ev=some hs) (hargs:fs++hs++cs=args)
  (h:ACall P g args H fun r H'=>bops P ro N all rest K ⟨(d,r)::sl,H'⟩):aop P 0 [] o (fun s'=>bops P ro N all rest K s') ⟨sl,H⟩:=by
 obtain ⟨h1,h2⟩:=Prod.mk.inj h0;refine op_call h2 hf ha hargs (h.mono fun r H' hk=>?_);rw [h1];exact bops_le (put_le (s:=⟨sl,H'⟩) d r) hk
def nyops (P:Program) (ro:Option Nat) (N:Nat) (ops:Array Oper) (K:AS→Prop) (q:Nat) (s:AS):Prop:=AnyAt P ro N ops (fun e s'=>e=.normal∧K s') q s
theorem AW.dy {id:Nat} {Q:Exit→AS→Prop} (hm:P.follows .mixedOrders=true) (h:∀ K:AS→Prop,(∀ s',Q .normal s'→K s')→nyops P ro N ops K 0 s):AW P ro N (.region id ops true) Q s :=
 AW.conseq (Q':=fun e s'=>e=.normal∧Q .normal s') (AW.any hm (h (Q .normal) fun _ h=>h)) fun e s1 ⟨he,h⟩=>he ▸ ⟨s1,AS.le_refl s1,h⟩
theorem AW.dys {id:Nat} {y:Code} {Q:Exit→AS→Prop} (hm:P.follows .mixedOrders=true) (h:∀ K:AS→Prop,(∀ s',AW P ro N y Q s'→K s')→nyops P ro N ops K 0 s):AW P ro N (.seq (.region id ops true) y) Q s :=
 AW.seq (AW.dy hm h)
variable {K:AS→Prop}
theorem y_st {q:Nat} (p:Nat) (hok:ops.toList.all (fun o=>okd N o.dst)=true) (hc:(daOk ops && Nat.ble q p && Nat.ble p ops.size && waitOk ops q p && segOk ops q p)=true)
  (h:stops P ops.toList ((ops.toList.drop q).take (p - q)) (nyops P ro N ops K p) s):nyops P ro N ops K q s:=by
 simp only [Bool.and_eq_true] at hc;obtain ⟨⟨⟨⟨h1,h2⟩,h3⟩,h4⟩,h5⟩:=hc;exact AnyAt.steady p _ hok h1 (Nat.le_of_ble_eq_true h2) (Nat.le_of_ble_eq_true h3) h4 h5 (fun _ h=>h) (h.go AnyAt.eqc)
theorem y_nil {q:Nat} (hc:(daOk ops && (ops.size == q))=true) (h:K s):nyops P ro N ops K q s:=by
 simp only [Bool.and_eq_true,beq_iff_eq] at hc;obtain ⟨h1,rfl⟩:=hc;exact AnyAt.done h1 ⟨rfl,h⟩
theorem one_op {q:Nat} {fid:Nat} {mt:List Nat} (hN:okd N o.dst=true) (h:aop P fid mt o (fun s'=>bops P ro N #[] [] (nyops P ro N ops K q) s') s):AOp P ro N o (nyops P ro N ops K q) s:=by
 have hk:AOp P ro N o _ s:=aop_sound hN h
 intro w0 μ0 μ a w next Q hs hE hK
 refine hk w0 μ0 μ a w next Q hs hE fun μ' s' a' w' h' hs' hE'=>?_
 have hb:=h' (by simp) 0 (fun k=>by simp);have:=hb w0 μ0 μ' a' w' (fun _ a w=>next a w) hs' hE' (fun μ2 s2 a2 w2 hk2 hs2 hE2=>hK μ2 s2 a2 w2 hk2 hs2 hE2)
 simpa only [List.length_nil,List.range'_zero,wpOpsIn] using this
theorem y_op {q:Nat} {fid:Nat} {mt:List Nat} (hc:(daOk ops && Nat.ble (q+1) ops.size && waitOk ops q (q+1))=true) (ho:ops[q]?=some o) (hg:o.guard=none) (hN:okd N o.dst=true)
  (h:aop P fid mt o (fun s'=>bops P ro N #[] [] (nyops P ro N ops K (q+1)) s') s):nyops P ro N ops K q s:=by
 simp only [Bool.and_eq_true] at hc;obtain ⟨⟨h1,h2⟩,h3⟩:=hc;exact AnyAt.op h1 (Nat.le_of_ble_eq_true h2) h3 (AOpI.plain ho hg (one_op hN h))
end
section
variable {P:Program} {ro:Option Nat} {N:Nat} {s:AS}
def AnyAtZ (P:Program) (ro:Option Nat) (N:Nat) (ops:Array Oper) (Q:Exit→AS→Prop) (q z:Nat) (s:AS):Prop :=
 ∀ (w0:World) (μ0:Mu) (fuel:Nat) (listed:Array Bool) (μ1:Mu) (a1:Act) (w1:World) (s1:AS),listed.size=ops.size→cnt listed≤fuel→(∀ i,i<ops.size→i≠z→listed.getD i false=decide (i<q)) →
  s1.heap=s.heap→(∀ t,dstOf ops z≠some t→sget s1.slots t=sget s.slots t)→(listed.getD z false=true→∀ t,sget s1.slots t=sget s.slots t) →
  SRel ro N w0.heap.size μ1 s1 a1 w1→Evo w0 μ0 w1 μ1→wpAnyIn (fence ro) 0 P .any ops (Post ro N Q w0 μ0) fuel listed a1 w1
def waitOkZ (ops:Array Oper) (q p z:Nat):Bool:=(List.range ops.size).all fun i=>decide (i<p) || ((List.range p).all fun k=>decide (k<q) || ((k == z) || (clos ops i).contains k))
theorem waitOkZ_spec {ops:Array Oper} {q p z:Nat} (h:waitOkZ ops q p z=true):∀ i,p≤i→i<ops.size→∀ k,q≤k→k<p→k≠z→k∈clos ops i:=by
 simp only [waitOkZ,List.all_eq_true,List.mem_range,Bool.or_eq_true,decide_eq_true_eq,List.contains_iff_mem,beq_iff_eq] at h;intro i hpi hi k hqk hkp hkz;exact (((h i hi).resolve_left (by omega) k hkp).resolve_left (by omega)).resolve_left hkz
theorem AnyAt.steadyZ {ops:Array Oper} {Q:Exit→AS→Prop} {q:Nat} (p z:Nat) (tail:AS→Prop) (hok:ops.toList.all (fun o=>okd N o.dst)=true) (hda:daOk ops=true) (hqp:q≤p) (hp:p≤ops.size) (hw:waitOkZ ops q p z=true) (hseg:segOk ops q p=true)
  (htail:∀ s1,tail s1→AnyAtZ P ro N ops Q p z s1) (h:asteps P ops.toList ((ops.toList.drop q).take (p - q)) tail s):AnyAt P ro N ops Q q s:=by
 have hda':=daOk_spec hda;have hchain:=waitOkZ_spec hw;simp only [segOk,Bool.and_eq_true,Bool.or_eq_true,decide_eq_true_eq,List.all_eq_true,List.mem_range] at hseg;obtain ⟨hdis,hlook⟩:=hseg
 obtain ⟨plan,St,hS0,hK,hplan⟩:=asteps_plan (ro:=ro) hok ((ops.toList.drop q).take (p - q)) q s (fun k hk=>by
  simp at hk
  rw [List.getElem?_take_of_lt (by omega),List.getElem?_drop,Array.getElem?_toList]) h
 have hlen:((ops.toList.drop q).take (p - q)).length=p - q:=by simp; omega
 rw [hlen] at hK hplan
 have hqpp:q+(p - q)=p:=by omega
 rw [hqpp] at hK
 have hdis':∀ i k,q≤i→i<p→q≤k→k<p→k≠i→∀ d,dstOf ops i=some d→dstOf ops k≠some d:=fun i k hqi hi hqk hk hki d hdi=>by
  have:=((hdis i hi).resolve_left (by omega) k hk).resolve_left (by omega);rw [hdi] at this;simp only [beq_iff_eq,bne_iff_ne] at this;exact this.resolve_left fun e=>hki e.symm
 have hplan':∀ i,q≤i→i<p→∃ o,ops[i]?=some o∧PureAt P ro N ops i o (plan i) (St i)∧((St i).put o.dst (plan i)).eqv (St (i+1)):=fun i hqi hi=>by
  have:=hplan (i - q) (by omega);rw [show q+(i - q)=i by omega] at this;exact this
 have hJ:∀ j,q≤j→j≤p→JQ ops q p plan (St q) (fun i=>q≤i∧i<j) (St j):=by
  intro j hqj;obtain ⟨d,rfl⟩:∃ d,j=q+d:=⟨j - q,by omega⟩;clear hqj
  induction d with
  | zero=>exact fun _=>⟨rfl,fun _ _ _ _ hx=>by omega,fun _ _=>rfl⟩
  | succ d ih =>
   intro hj;obtain ⟨o,ho,_,he⟩:=hplan' (q+d) (by omega) (by omega);exact (ih (by omega)).step ho (by omega) (by omega) (fun k hqk hk hkj=>hdis' (q+d) k (by omega) (by omega) hqk hk hkj) (fun k=>by omega) he
 intro w0 μ0
 have main:∀ (fuel:Nat) (listed:Array Bool) (s1:AS) (μ1:Mu) (a1:Act) (w1:World),listed.size=ops.size→cnt listed≤fuel→(∀ i,i<ops.size→listed.getD i false=true→∀ k∈da ops i,listed.getD k false=true) →
   (∀ i,i<q→listed.getD i false=true)→(∀ i,p≤i→i<ops.size→listed.getD i false=false)→JQ ops q p plan (St q) (fun i=>listed.getD i false=true) s1→SRel ro N w0.heap.size μ1 s1 a1 w1→Evo w0 μ0 w1 μ1 →
   wpAnyIn (fence ro) 0 P .any ops (Post ro N Q w0 μ0) fuel listed a1 w1:=by
  intro fuel
  have fin:∀ (fuel:Nat) (listed:Array Bool) (s1:AS) (μ1:Mu) (a1:Act) (w1:World),listed.size=ops.size→cnt listed≤fuel→(∀ i,i<p→i≠z→listed.getD i false=true) →
    (∀ i,p≤i→i<ops.size→listed.getD i false=false)→JQ ops q p plan (St q) (fun i=>listed.getD i false=true) s1→SRel ro N w0.heap.size μ1 s1 a1 w1→Evo w0 μ0 w1 μ1 →
    wpAnyIn (fence ro) 0 P .any ops (Post ro N Q w0 μ0) fuel listed a1 w1:=by
   intro fuel listed s1 μ1 a1 w1 hl hc hall htl hj hs1 hE1;have hp1:=hJ p hqp (Nat.le_refl _);refine htail _ hK w0 μ0 fuel listed μ1 a1 w1 s1 hl hc (fun i hi hiz=>?_) (hj.1.trans hp1.1.symm) (fun t ht=>?_) (fun hlz t=>?_) hs1 hE1
   ·by_cases hip:i<p
    ·rw [hall i hip hiz]; simp [hip]
    rw [htl i (by omega) hi]; simp [hip]
   ·by_cases hx:∃ i,q≤i∧i<p∧dstOf ops i=some t
    ·obtain ⟨i,hqi,hi,hdi⟩:=hx
     have hiz:i≠z:=fun e=>ht (by rw [← e]; exact hdi);rw [hp1.2.1 i t hqi hi ⟨hqi,hi⟩ hdi,hj.2.1 i t hqi hi (hall i hi hiz) hdi]
    rw [hp1.2.2 t (fun i hqi hi _ hdi=>hx ⟨i,hqi,hi,hdi⟩),hj.2.2 t (fun i hqi hi _ hdi=>hx ⟨i,hqi,hi,hdi⟩)]
   have hall':∀ i,i<p→listed.getD i false=true:=fun i hi=>by
    by_cases e:i=z
    ·rw [e]; exact hlz
    exact hall i hi e
   by_cases hx:∃ i,q≤i∧i<p∧dstOf ops i=some t
   ·obtain ⟨i,hqi,hi,hdi⟩:=hx
    rw [hp1.2.1 i t hqi hi ⟨hqi,hi⟩ hdi,hj.2.1 i t hqi hi (hall' i hi) hdi]
   rw [hp1.2.2 t (fun i hqi hi _ hdi=>hx ⟨i,hqi,hi,hdi⟩),hj.2.2 t (fun i hqi hi _ hdi=>hx ⟨i,hqi,hi,hdi⟩)]
  induction fuel with
  | zero =>
   intro listed s1 μ1 a1 w1 hl hc hcl hold htl hj hs1 hE1;refine fin 0 listed s1 μ1 a1 w1 hl hc (fun i hi _=>?_) htl hj hs1 hE1
   cases hh:listed.getD i false with
   | true=>rfl
   | false =>
    have:=cnt_pos (listed:=listed) (i:=i) (by rw [getD_tf (by omega)]; exact hh);omega
  | succ fuel ih =>
   intro listed s1 μ1 a1 w1 hl hc hcl hold htl hj hs1 hE1;by_cases hall:∀ i,i<p→i≠z→listed.getD i false=true
   ·exact fin (fuel+1) listed s1 μ1 a1 w1 hl hc hall htl hj hs1 hE1
   refine ⟨fun hr=>?_,fun i hi=>?_⟩
   ·exfalso
    obtain ⟨j,⟨hjp,hjl⟩,hmin⟩:=least (fun j=>j<p∧listed.getD j false=false) (by
     refine Classical.byContradiction fun hno=>hall fun i hi _=>?_
     cases hh:listed.getD i false with
     | true=>rfl
     | false=>exact absurd ⟨i,hi,hh⟩ hno)
    have:=ready_of hda' hl (by omega:j<ops.size) hjl fun k hk=>by
     cases hh:listed.getD k false with
     | true=>rfl
     | false=>have:=hmin k ⟨by omega,hh⟩; omega
    rw [hr] at this;cases this
   have hdone:=deps_done hi;obtain ⟨h0,o,ho,hwait⟩:=mem_ready.1 hi;have his:=(Array.getElem?_eq_some_iff.1 ho).1
   have hil:listed.getD i false=false:=by rw [← getD_tf (by omega)]; exact h0
   have hqi:q≤i:=by
    rcases Nat.lt_or_ge i q with h | h
    ·have:=hold i h; rw [hil] at this; cases this
    exact h
   have hip:i<p:=by
    rcases Nat.lt_or_ge i p with h | h
    ·exact h
    exfalso;refine hall fun k hk hkz=>?_
    rcases Nat.lt_or_ge k q with hkq | hkq
    ·exact hold k hkq
    refine clos_ind (fun k=>listed.getD k false=true) hdone (fun k hki hkl m hm=>?_) k (hchain i h his k hkq hk hkz);exact hcl k (by omega) hkl m hm
   obtain ⟨o',ho',hpure,_⟩:=hplan' i hqi hip;rw [ho] at ho';cases ho';have hSi:=hJ i hqi (by omega)
   have hagree:∀ t∈o.looksAt ops,sget s1.slots t=sget (St i).slots t:=by
    intro t ht;by_cases hx:∃ k,q≤k∧k<p∧dstOf ops k=some t
    ·obtain ⟨k,hqk,hk,hdk⟩:=hx
     have hc2:=((hlook i hip).resolve_left (by omega) k hk).resolve_left (by omega);rw [hdk,ho] at hc2;simp only [Bool.or_eq_true,Bool.not_eq_true',List.contains_eq_mem,decide_eq_false_iff_not] at hc2;have hc3:=hc2.resolve_left (fun hn=>hn ht);by_cases hki:k<i
     ·rw [if_pos hki] at hc3
      have hkd:k∈da ops i:=by simpa using hc3
      rw [hSi.2.1 k t hqk hk ⟨hqk,hki⟩ hdk,hj.2.1 k t hqk hk (hdone k hkd) hdk]
     rw [if_neg hki] at hc3
     have hkn:listed.getD k false=false:=by
      rcases (by simpa using hc3:k=i∨i∈da ops k) with e | hik
      ·rw [e]; exact hil
      cases hh:listed.getD k false with
      | false=>rfl
      | true =>
       have:=hcl k (by omega) hh i hik;rw [hil] at this;cases this
     rw [hSi.2.2 t (fun m hqm hm hmi hdm=>?_),hj.2.2 t (fun m hqm hm hml hdm=>?_)]
     ·by_cases hmk:m=k
      ·subst hmk
       have hml':listed.getD m false=true:=hml;rw [hkn] at hml';cases hml'
      exact hdis' k m hqk hk hqm hm hmk t hdk hdm
     by_cases hmk:m=k
     ·subst hmk; omega
     exact hdis' k m hqk hk hqm hm hmk t hdk hdm
    rw [hSi.2.2 t (fun m hqm hm _ hdm=>hx ⟨m,hqm,hm,hdm⟩),hj.2.2 t (fun m hqm hm _ hdm=>hx ⟨m,hqm,hm,hdm⟩)]
   refine hpure s1 (hj.1.trans hSi.1.symm) hagree (fun s2=>s2=s1.put o.dst (plan i)) rfl w0 μ0 μ1 a1 w1 _ _ hs1 hE1 ?_
   rintro μ2 s2 a2 w2 rfl hs2 hE2
   have hset:∀ k,(listed.setIfInBounds i true).getD k false=true↔listed.getD k false=true∨k=i:=fun k=>by
    by_cases hki:i=k
    ·subst hki
     have:i<listed.size:=by omega
     simp [this]
    rw [getD_set_ne false hki];exact ⟨.inl,fun h=>h.resolve_right fun e=>hki e.symm⟩
   have hcnt:=cnt_set (listed:=listed) (i:=i) h0;refine ih (listed.setIfInBounds i true) _ μ2 a2 w2 (by simp [hl]) (by omega) (fun j hj hlj k hk=>?_) (fun j hjq=>(hset j).2 (.inl (hold j hjq))) (fun j hpj hjs=>?_) (hj.step ho hqi hip (fun k hqk hk hki=>hdis' i k hqi hip hqk hk hki) (fun k=>hset k) (AS.eqv.refl _)) hs2 hE2
   ·rcases (hset j).1 hlj with h | rfl
    ·exact (hset k).2 (.inl (hcl j hj h k hk))
    exact (hset k).2 (.inl (hdone k hk))
   cases hh:(listed.setIfInBounds i true).getD j false with
   | false=>rfl
   | true =>
    rcases (hset j).1 hh with h | h
    ·rw [htl j hpj hjs] at h; cases h
    omega
 intro fuel listed μ1 a1 w1 hl hc hlist hs hE;have hs':SRel ro N w0.heap.size μ1 (St q) a1 w1:=hs.eqv hS0;refine main fuel listed (St q) μ1 a1 w1 hl hc (fun i hi hli k hk=>?_) (fun i hi=>?_) (fun i hpi hi=>?_) ⟨rfl,fun i t hqi hi hli=>?_,fun t _=>rfl⟩ hs' hE
 ·have hki:=hda' i hi k hk
  rw [hlist i hi] at hli;rw [hlist k (by omega)];simp at hli ⊢;omega
 ·rw [hlist i (by omega)]; simp [hi]
 ·rw [hlist i hi]; simp; omega
 have hli':listed.getD i false=true:=hli;rw [hlist i (by omega)] at hli';simp at hli';omega
theorem AnyAtZ.op {ops:Array Oper} {Q:Exit→AS→Prop} {q z:Nat} {t:AS} (hda:daOk ops=true) (hq:q<ops.size) (hzq:z<q) (hw:waitOk ops q (q+1)=true) (hwz:∀ i,q<i→i<ops.size→z∈clos ops i) (hno:∀ k,k≤q→k≠z→¬ z∈da ops k)
  (hz0:∀ s1:AS,s1.heap=s.heap→(∀ u,dstOf ops z≠some u→sget s1.slots u=sget s.slots u)→AOpI P ro N ops z (fun s2=>s2.heap=s.heap∧∀ u,sget s2.slots u=sget s.slots u) s1)
  (hz1:∀ s1:AS,s1.heap=t.heap→(∀ u,dstOf ops z≠some u→sget s1.slots u=sget t.slots u)→AOpI P ro N ops z (fun s2=>s2.heap=t.heap∧∀ u,sget s2.slots u=sget t.slots u) s1)
  (hop:∀ s1:AS,s1.heap=s.heap→(∀ u,dstOf ops z≠some u→sget s1.slots u=sget s.slots u)→AOpI P ro N ops q (fun s2=>s2.heap=t.heap∧(∀ u,dstOf ops z≠some u→sget s2.slots u=sget t.slots u)∧((∀ u,sget s1.slots u=sget s.slots u)→∀ u,sget s2.slots u=sget t.slots u)) s1)
  (h:AnyAt P ro N ops Q (q+1) t):AnyAtZ P ro N ops Q q z s:=by
 intro w0 μ0 fuel listed μ1 a1 w1 s1 hl hc hlist hh hsl hall hs hE;have hda':=daOk_spec hda
 -- when z is done
 have done:∀ (fuel:Nat) (listed:Array Bool) (μ1:Mu) (a1:Act) (w1:World) (s1:AS),listed.size=ops.size→cnt listed≤fuel→(∀ i,i<ops.size→listed.getD i false=decide (i<q))→s1.heap=s.heap→(∀ u,sget s1.slots u=sget s.slots u) →
   SRel ro N w0.heap.size μ1 s1 a1 w1→Evo w0 μ0 w1 μ1→wpAnyIn (fence ro) 0 P .any ops (Post ro N Q w0 μ0) fuel listed a1 w1:=by
  intro fuel listed μ1 a1 w1 s1 hl hc hlist hh hsl hs hE;refine AnyAt.op (s:=s1) hda hq hw ?_ w0 μ0 fuel listed μ1 a1 w1 hl hc hlist hs hE;have hk:=hop s1 hh (fun u _=>hsl u)
  intro w0 μ0 μ a w next Q' hs hE hK
  refine hk w0 μ0 μ a w next Q' hs hE fun μ2 s2 a2 w2 hk2 hs2 hE2=>hK μ2 s2 a2 w2 ?_ hs2 hE2
  intro w3 μ3 fuel3 listed3 μ4 a4 w4 h1 h2 h3 h4 h5;exact h w3 μ3 fuel3 listed3 μ4 a4 w4 h1 h2 h3 (h4.eqv ⟨hk2.1.symm,fun u=>(hk2.2.2 hsl u).symm⟩) h5
 by_cases hlz:listed.getD z false=true
 ·refine done fuel listed μ1 a1 w1 s1 hl hc (fun i hi=>?_) hh (hall hlz) hs hE
  by_cases e:i=z
  ·rw [e,hlz]; simp [hzq]
  exact hlist i hi e
 have hzf:listed.getD z false=false:=by simpa using hlz
 have hqn:listed.getD q false=false:=by rw [hlist q hq (by omega)]; simp
 cases fuel with
 | zero =>
  have:=cnt_pos (listed:=listed) (i:=q) (by rw [getD_tf (by omega)]; exact hqn);omega
 | succ fuel =>
  refine ⟨fun hr=>?_,fun i hi=>?_⟩
  ·exfalso
   have:=ready_of hda' hl (by omega:z<ops.size) hzf fun k hk=>by rw [hlist k (by omega) (by omega)]; simp; omega
   rw [hr] at this;cases this
  have hdone:=deps_done hi;obtain ⟨h0,o,ho,_⟩:=mem_ready.1 hi;have his:=(Array.getElem?_eq_some_iff.1 ho).1;by_cases hiz:i=z
  ·subst hiz
   refine hz0 s1 hh hsl w0 μ0 μ1 a1 w1 _ _ hs hE fun μ2 s2 a2 w2 hk hs2 hE2=>done fuel _ μ2 a2 w2 s2 (by simp [hl]) ?_ (fun k hk=>?_) hk.1 hk.2 hs2 hE2
   ·have:=cnt_set (listed:=listed) (i:=i) h0
    omega
   by_cases hki:i=k
   ·subst hki
    have:i<listed.size:=by omega
    simp [this,hzq]
   rw [getD_set_ne false hki,hlist k hk (fun e=>hki e.symm)]
  rw [getD_tf (by omega),hlist i his hiz] at h0
  have hqi:q≤i:=by simpa using h0
  have hiq:i=q:=by
   rcases Nat.lt_or_ge q i with hlt | hge
   ·exfalso
    have hc:=waitOk_spec hw i hlt his q (Nat.le_refl _) (Nat.lt_succ_self _)
    have:=clos_ind (fun k=>k<q) (fun k hk=>by
     have hd:=hdone k hk;by_cases e:k=z
     ·omega
     rw [hlist k (Nat.lt_trans (hda' i his k hk) his) e] at hd
     simpa using hd) (fun k hki hkq m hm=>Nat.lt_trans (hda' k (by omega) m hm) hkq) q hc
    omega
   omega
  subst hiq;refine hop s1 hh hsl w0 μ0 μ1 a1 w1 _ _ hs hE fun μ2 s2 a2 w2 hk hs2 hE2=>?_
  -- now z alone is ready
  have hl2:(listed.setIfInBounds i true).size=ops.size:=by simp [hl]
  have hc2:=cnt_set (listed:=listed) (i:=i) (by rw [getD_tf (by omega)]; exact hqn)
  have hz2:(listed.setIfInBounds i true).getD z false=false:=by rw [getD_set_ne false hiz]; exact hzf
  have hlist2:∀ k,k<ops.size→k≠z→(listed.setIfInBounds i true).getD k false=decide (k<i+1):=fun k hk hkz=>by
   by_cases hki:i=k
   ·subst hki
    have:i<listed.size:=by omega
    simp [this]
   rw [getD_set_ne false hki,hlist k hk hkz]
   congr 1
   apply propext;omega
  cases fuel with
  | zero =>
   have:=cnt_pos (listed:=listed.setIfInBounds i true) (i:=z) (by rw [getD_tf (by omega)]; exact hz2);omega
  | succ fuel =>
   refine ⟨fun hr=>?_,fun j hj=>?_⟩
   ·exfalso
    have:=ready_of hda' hl2 (by omega:z<ops.size) hz2 fun k hk=>by rw [hlist2 k (by omega) (by omega)]; simp; omega
    rw [hr] at this;cases this
   have hdone2:=deps_done hj;obtain ⟨h02,o2,ho2,_⟩:=mem_ready.1 hj;have hjs:=(Array.getElem?_eq_some_iff.1 ho2).1
   have hjz:j=z:=by
    apply Classical.byContradiction;intro hjz;rw [getD_tf (by omega),hlist2 j hjs hjz] at h02
    have hij:i+1≤j:=by simpa using h02
    have hcz:=hwz j (by omega) hjs
    have:=clos_ind (fun k=>k≠z∧k<i+1) (fun k hk=>by
     have hd:=hdone2 k hk
     have hkz:k≠z:=fun e=>by rw [e,hz2] at hd; cases hd
     rw [hlist2 k (Nat.lt_trans (hda' j hjs k hk) hjs) hkz] at hd
     exact ⟨hkz,by simpa using hd⟩) (fun k hkj hkz m hm=>?_) z hcz
    ·exact this.1 rfl
    have hmk:=hda' k (by omega) m hm;refine ⟨fun e=>?_,by omega⟩
    -- an operation that is done waits on z: it would not be done
    exact absurd e (by intro e; exact hno k (by omega) hkz.1 (by rw [← e]; exact hm))
   subst hjz;refine hz1 s2 hk.1 hk.2.1 w0 μ0 μ2 a2 w2 _ _ hs2 hE2 fun μ3 s3 a3 w3 hk3 hs3 hE3=>h w0 μ0 fuel _ μ3 a3 w3 (by simp [hl]) ?_ (fun k hk=>?_) (hs3.eqv ⟨hk3.1.symm,fun u=>(hk3.2 u).symm⟩) hE3
   ·have:=cnt_set (listed:=listed.setIfInBounds i true) (i:=j) h02
    omega
   by_cases hkj:j=k
   ·subst hkj
    have:j<(listed.setIfInBounds i true).size:=by omega
    simp only [Array.getD_eq_getD_getElem?];rw [Array.getElem?_setIfInBounds_self_of_lt this];simp; omega
   rw [getD_set_ne false hkj,hlist2 k hk (fun e=>hkj e.symm)]
end
section
variable {P:Program} {ro:Option Nat} {N:Nat} {s:AS} {ops:Array Oper} {o:Oper} {sl:List (Nat × HV)} {H:Heap} {all:Array Oper} {rest:List Oper} {K:AS→Prop}
theorem o_copy {d:Nat} {t xt e:TypeId} {a b:Nat} {z:Value} {aa:Array Operand} {ts:Array TypeId} {x y:Operand} {id ver k n off m k':Nat} {e':TypeId} {xs ds zs:List HV} {hy:HV} {Te:TyI} (h0:(o.dst,o.op)=(some d,.call ⟨.builtin .copy,aa,ts⟩)) (has:aa.toList=[x,y]) (hts:ts.toList=[t,xt])
  (hT:ty P t=some ⟨.slice e,a,b,z⟩) (hTe:ty P e=some Te) (hx:s.ev x=some (.ar id ver k off n)) (hy':s.ev y=some hy) (hst:isStr hy=false) (hg:hget s.heap id=some (ver,.arr k' e' xs)) (hfit:off+n*Te.size≤xs.length) (hs:asrc P s xt Te.size hy fun m' ds'=>m'=m∧ds'=ds)
  (hz:xs.take off++ds.take (min m n*Te.size)++xs.drop (off+min m n*Te.size)=zs)
  (kk:bops P ro N all rest K ⟨(d,.int .i64 ((min m n:Nat):Int))::s.slots,(id,ver,.arr k' e' zs)::s.heap⟩):aop P 0 [] o (fun s'=>bops P ro N all rest K s') s:=by
 obtain ⟨h1,h2⟩:=Prod.mk.inj h0;simp only [aop,h2,has,hts,hT,hx,hy',hTe,hg];refine ⟨trivial,hst,hfit,asrc_mono hs fun m' ds' ⟨e1,e2⟩=>?_⟩;subst e1 e2;rw [h1,hz];exact bops_le (putH_le id ver _ d _) kk
theorem v_sliceA {t e:TypeId} {sz by':Nat} {z:Value} {x:Operand} {lo hi:Option Operand} {id ver k off n:Nat} {ob:AObj} {a b:Int} (hT:ty P t=some ⟨.slice e,sz,by',z⟩) (hE:elemSize P t=some k) (hx:s.ev x=some (.ar id ver k off n)) (ha:asl s lo 0=some a) (hb:asl s hi n=some b) (h:0≤a∧a≤b∧b≤n∧(a=0∨a<n)) (hg:hget s.heap id=some (ver,ob)) :
  aval P (.slice t x lo hi none) s (· = .ar id ver k (off+a.toNat*k) (b.toNat - a.toNat)):=by
 simp only [aval,hT,hE,hx,ha,hb];exact ⟨trivial,h.1,h.2.1,h.2.2.1,h.2.2.2,by simp only [alive,hg],trivial⟩
theorem AnyAtZ.eqc {Q:Exit→AS→Prop} {q z:Nat}:Eqc (AnyAtZ P ro N ops Q q z):=fun _ _ he h w0 μ0 fuel listed μ1 a1 w1 s1 h1 h2 h3 h4 h5 h6 h7 h8 =>
 h w0 μ0 fuel listed μ1 a1 w1 s1 h1 h2 h3 (h4.trans he.1.symm) (fun t ht=>(h5 t ht).trans (he.2 t).symm) (fun hl t=>(h6 hl t).trans (he.2 t).symm) h7 h8
theorem y_stZ {q:Nat} (p z:Nat) (hok:ops.toList.all (fun o=>okd N o.dst)=true) (hc:(daOk ops && Nat.ble q p && Nat.ble p ops.size && waitOkZ ops q p z && segOk ops q p)=true)
  (h:stops P ops.toList ((ops.toList.drop q).take (p - q)) (AnyAtZ P ro N ops (fun e s'=>e=.normal∧K s') p z) s):nyops P ro N ops K q s:=by
 simp only [Bool.and_eq_true] at hc;obtain ⟨⟨⟨⟨h1,h2⟩,h3⟩,h4⟩,h5⟩:=hc;exact AnyAt.steadyZ p z _ hok h1 (Nat.le_of_ble_eq_true h2) (Nat.le_of_ble_eq_true h3) h4 h5 (fun _ h=>h) (h.go AnyAtZ.eqc)
def lateOk (ops:Array Oper) (q z:Nat):Bool:=daOk ops && Nat.ble (q+1) ops.size && Nat.ble (z+1) q && waitOk ops q (q+1) && ((List.range ops.size).all fun i=>decide (i≤q) || (clos ops i).contains z) && ((List.range (q+1)).all fun k=>(k == z) || !((da ops k).contains z))
theorem y_late {q z dz dq:Nat} {oz oq:Oper} {x:Operand} {v vq:HV} {H':Heap} (hc:lateOk ops q z=true) (hoz:ops[z]?=some oz) (hz:(oz.guard,oz.dst,mvOf oz.op)=(none,some dz,some x)) (hoq:ops[q]?=some oq) (hq:(oq.guard,oq.dst)=(none,some dq)) (hN:(okd N oz.dst && okd N oq.dst)=true)
  (hv:sget sl dz=some v) (hne:dz≠dq)
  (hx:∀ sl' H2,(∀ u,u≠dz→sget sl' u=sget sl u)→(⟨sl',H2⟩:AS).ev x=some v) (hx2:∀ sl' H2,(∀ u,u≠dz→sget sl' u=sget ((dq,vq)::sl) u)→(⟨sl',H2⟩:AS).ev x=some v)
  (hop:∀ sl':List (Nat × HV),(∀ u,u≠dz→sget sl' u=sget sl u)→∀ K':AS→Prop,K' ⟨(dq,vq)::sl',H'⟩→(∀ s s':AS,s.heap=s'.heap→(∀ u,sget s.slots u=sget s'.slots u)→K' s'→K' s)→AOp P ro N oq K' ⟨sl',H⟩)
  (h:nyops P ro N ops K (q+1) ⟨(dq,vq)::sl,H'⟩):AnyAtZ P ro N ops (fun e s'=>e=.normal∧K s') q z ⟨sl,H⟩:=by
 simp only [lateOk,Bool.and_eq_true,List.all_eq_true,List.mem_range,Bool.or_eq_true,decide_eq_true_eq,List.contains_iff_mem,beq_iff_eq,Bool.not_eq_true'] at hc;obtain ⟨⟨⟨⟨⟨h1,h2⟩,h3⟩,h4⟩,h5⟩,h6⟩:=hc;obtain ⟨g1,g2⟩:=Prod.mk.inj hz;obtain ⟨g2,g3⟩:=Prod.mk.inj g2;obtain ⟨k1,k2⟩:=Prod.mk.inj hq;simp only [Bool.and_eq_true] at hN
 have hdz:dstOf ops z=some dz:=by simp [dstOf,hoz,g2]
 have hzo:∀ (sl':List (Nat × HV)) (H2:Heap) (K':AS→Prop),(⟨sl',H2⟩:AS).ev x=some v→K' ((⟨sl',H2⟩:AS).put (some dz) v)→AOpI P ro N ops z K' ⟨sl',H2⟩:=fun sl' H2 K' hx hK=>by
  refine AOpI.plain hoz g1 ?_;refine aop_sound (fid:=0) (mt:=[]) hN.1 ?_;obtain ⟨m1,m2⟩:=mv_val g3 hx;refine op_val m1 m2 ?_;rw [g2];exact hK
 have hput:∀ (sl' sl0:List (Nat × HV)) (H2:Heap),sget sl0 dz=some v→(∀ u,u≠dz→sget sl' u=sget sl0 u)→∀ u,sget ((⟨sl',H2⟩:AS).put (some dz) v).slots u=sget sl0 u:=fun sl' sl0 H2 hv0 hl u=>by
  simp only [AS.put,sget_sset];by_cases e:u=dz
  ·rw [if_pos e,e,hv0]
  rw [if_neg e,hl u e]
 refine AnyAtZ.op (t:=⟨(dq,vq)::sl,H'⟩) h1 (Nat.le_of_ble_eq_true h2) (Nat.le_of_ble_eq_true h3) h4 (fun i hi his=>(h5 i his).resolve_left (by omega)) (fun k hk hkz hm=>by have h7:=(h6 k (by omega)).resolve_left hkz; rw [List.contains_eq_mem,decide_eq_false_iff_not] at h7; exact h7 hm) ?_ ?_ ?_ h
 ·rintro ⟨sl',H2⟩ hh hl
  cases hh;have hl':∀ u,u≠dz→sget sl' u=sget sl u:=fun u hu=>hl u (by rw [hdz]; intro e; cases e; exact hu rfl);exact hzo sl' H _ (hx sl' H hl') ⟨rfl,hput sl' sl H hv hl'⟩
 ·rintro ⟨sl',H2⟩ hh hl
  cases hh;have hl':∀ u,u≠dz→sget sl' u=sget ((dq,vq)::sl) u:=fun u hu=>hl u (by rw [hdz]; intro e; cases e; exact hu rfl);refine hzo sl' H' _ (hx2 sl' H' hl') ⟨rfl,hput sl' _ H' ?_ hl'⟩;simp only [sget];rw [if_neg hne];exact hv
 rintro ⟨sl',H2⟩ hh hl
 cases hh;have hl':∀ u,u≠dz→sget sl' u=sget sl u:=fun u hu=>hl u (by rw [hdz]; intro e; cases e; exact hu rfl);refine AOpI.plain hoq k1 (hop sl' hl' _ ⟨rfl,fun u hu=>?_,fun ha u=>?_⟩ ?_)
 ·simp only [sget]
  split
  ·rfl
  exact hl u hu
 ·simp only [sget]
  split
  ·rfl
  exact ha u
 rintro s1 s2 e1 e2 ⟨f1,f2,f3⟩
 exact ⟨e1.trans f1,fun u hu=>(e2 u).trans (f2 u hu),fun ha u=>(e2 u).trans (f3 ha u)⟩
end
def entE {β:Type} (f:β→HV) (l:List (List UInt8 × β)):List (List UInt8 × HV):=l.map fun x=>(x.1,f x.2)
def mlook {β:Type} (k:List UInt8):List (List UInt8 × β)→Option β
 | []=>none
 | (q,h)::es=>if k=q then some h else mlook k es
def mputN {β:Type} (k:List UInt8) (h:β):List (List UInt8 × β)→List (List UInt8 × β)
 | []=>[(k,h)]
 | (q,x)::es=>if k=q then (q,h)::es else (q,x)::mputN k h es
theorem alook_ent {β:Type} (f:β→HV) (k:List UInt8):∀ l:List (List UInt8 × β),alook k (entE f l)=(mlook k l).map f
 | []=>rfl
 | (q,x)::l=>by
  show alook k ((q,f x)::entE f l)=_;simp only [alook,mlook];split
  ·rfl
  exact alook_ent f k l
theorem mput_ent {β:Type} (f:β→HV) (k:List UInt8) (v:β):∀ l:List (List UInt8 × β),mput k (f v) (entE f l)=entE f (mputN k v l)
 | []=>rfl
 | (q,x)::l=>by
  show mput k (f v) ((q,f x)::entE f l)=_;simp only [mput,mputN];split
  ·rfl
  rw [mput_ent f k v l]; rfl
section
variable {P:Program} {ro:Option Nat} {N:Nat} {s:AS} {o:Oper} {sl:List (Nat × HV)} {H:Heap} {all:Array Oper} {rest:List Oper} {K:AS→Prop} {fid:Nat} {β:Type}
theorem o_makeMap (f:β→HV) {d:Nat} {t:TypeId} (id:Nat) (h0:(o.dst,o.op)=(some d,.makeMap t none)) (hid:fid*1000+d=id)
  (k:∀ ver,bops P ro N all rest K ⟨(d,.mp id ver)::sl,(id,ver,.map (entE f []))::H⟩):aop P fid [] o (fun s'=>bops P ro N all rest K s') ⟨sl,H⟩:=by
 obtain ⟨h1,h2⟩:=Prod.mk.inj h0;simp only [aop,h2,h1];intro ver;have e:cid fid (some d)=id:=hid;rw [e];exact bops_le (putH_le (s:=⟨sl,H⟩) id ver (.map (entE f [])) d (.mp id ver)) (k ver)
theorem o_mapSet (f:β→HV) {t kt et:TypeId} {a b:Nat} {z:Value} {m x y:Operand} {id ver:Nat} {k:List UInt8} {v:β} {es:List (List UInt8 × β)} {a2 b2:Nat} {z2:Value} (h0:(o.dst,o.op)=(none,.mapUpdate t m x y)∨(o.dst,o.op)=(none,.insert t m x y)) (hT:ty P t=some ⟨.map kt et,a,b,z⟩) (hK:ty P kt=some ⟨.string,a2,b2,z2⟩)
  (hm:(⟨sl,H⟩:AS).ev m=some (.mp id ver)) (hx:(⟨sl,H⟩:AS).ev x=some (.str k)) (hy:(⟨sl,H⟩:AS).ev y=some (f v)) (hg:hget H id=some (ver,.map (entE f es))) (hn:noIter id H)
  (kk:bops P ro N all rest K ⟨sl,(id,ver,.map (entE f (mputN k v es)))::H⟩):aop P 0 [] o (fun s'=>bops P ro N all rest K s') ⟨sl,H⟩:=by
 rcases h0 with h0 | h0
 all_goals
  obtain ⟨h1,h2⟩:=Prod.mk.inj h0;simp only [aop,h2,hT,hm,hx,hy,hK,hg,h1];refine ⟨trivial,hn,?_⟩;rw [mput_ent];exact bops_le (putN_le (s:=⟨sl,H⟩) id ver _ _) kk
theorem look_dflt {f:β→HV} {k:List UInt8} {v:β} {es:List (List UInt8 × β)} {zh:HV} (h:f v=zh):((mlook k es).map f).getD zh=f ((mlook k es).getD v):=by
 cases mlook k es with
 | none=>exact h.symm
 | some x=>rfl
end
section
variable {P:Program} {ro:Option Nat} {N:Nat} {s:AS} {o:Oper} {sl:List (Nat × HV)} {H:Heap} {all:Array Oper} {rest l:List Oper} {K:AS→Prop} {Q:Exit→AS→Prop}
theorem bops_to (h:s.to (bops P ro N all l K)):bops P ro N all l K s:=fun hok i hi w0 μ0 μ a w Q hs hE hK=>by
 obtain ⟨μ1,t,ht,hs1,E1⟩:=h ro N w0.heap.size μ a w hs;exact ht hok i hi w0 μ0 μ1 a w Q hs1 (hE.trans E1) hK
theorem AW.fin {c:Code} (h:AW P ro N c (thenQ (fun s'=>s'.to (Q .normal)) Q) s):AW P ro N c Q s:=by
 intro w0 μ0 μ a w hs hE;refine wpIn_mono (h w0 μ0 μ a w hs hE) ?_
 rintro e a' w' ⟨h1,h2,μ',s',h3,h4,h5⟩
 cases e with
 | normal =>
  obtain ⟨μ2,t,ht,hs2,E2⟩:=h3 ro N w0.heap.size μ' a' w' h4;exact ⟨h1,h2,μ2,t,ht,hs2,h5.trans E2⟩
 | exit id=>exact ⟨h1,h2,μ',s',h3,h4,h5⟩
 | goto l=>exact ⟨h1,h2,μ',s',h3,h4,h5⟩
 | ret=>exact ⟨h1,h2,μ',s',h3,h4,h5⟩
 | panic ch=>exact absurd rfl (h1 ch)
 | outgrown=>exact absurd rfl h2
theorem o_callJ {S V R:Type} {M:S→Option R} {B:(S→Option R)→Option R} {r:R} {d:Nat} {aa:Array Operand} {ts:Array TypeId} {f:Operand} {g:FuncId} {fs hs cs args:List HV} (h:jp M B=some r) (St:S→V→AS) (h0:(o.dst,o.op)=(some d,.call ⟨.value f,aa,ts⟩)) (hf:(⟨sl,H⟩:AS).ev f=some (.fn (.func g) fs cs)) (ha:aa.toList.mapM (⟨sl,H⟩:AS).ev=some hs) (hargs:fs++hs++cs=args)
  (k:∀ a v,M a=some r→bops P ro N all rest K (St a v)) (b:∀ M',B M'=some r→ACall P g args H fun q H'=>(⟨(d,q)::sl,H'⟩:AS).to fun t=>∃ a v,M' a=some r∧t=St a v):aop P 0 [] o (fun s'=>bops P ro N all rest K s') ⟨sl,H⟩:=by
 obtain ⟨h1,h2⟩:=Prod.mk.inj h0;refine op_call h2 hf ha hargs ((b M h).mono fun q H' hk=>?_);rw [h1];exact bops_le (put_le (s:=⟨sl,H'⟩) d q) (bops_to (to_mono hk fun t ⟨a,v,hm,e⟩=>by subst e; exact k a v hm))
theorem resAll_mono:∀ {rvs:List ResultVar} {F G:List HV→Prop},resAll P s rvs F→(∀ h,F h→G h)→resAll P s rvs G:=by
 intro rvs
 induction rvs with
 | nil=>intro F G h hg; exact hg _ h
 | cons rv rvs ih =>
  intro F G h hg
  have one:∀ {R R':HV→Prop},resOne P s rv R→(∀ v,R v→R' v)→resOne P s rv R':=by
   intro R R' h hr;unfold resOne at h ⊢;split at h
   ·split at h
    ·exact hr _ h
    exact h.elim
   split at h
   ·exact loadK_mono h hr
   ·split at h
    ·exact ⟨h.1,loadK_mono h.2 hr⟩
    exact h.elim
   exact h.elim
  exact one h fun v hv=>ih hv fun hs=>hg _
theorem ret_to {rvs:List ResultVar} {hs:List HV} {q:HV} {e:Exit} {K:HV→Heap→Prop} (he:e=.normal∨e=.ret) (hr:resAll P s rvs fun hs'=>hs'=hs) (hj:joinR hs=q) (h:K q s.heap):retQ P rvs K e s:=by
 refine ⟨he,resAll_mono hr fun hs' e=>?_⟩;subst e;exact ⟨q,s.heap,by rw [hj]; exact Conv.refl _ _,h⟩
end
section
open Go Go.MapKept
section
variable {P:Program} {ro:Option Nat} {N:Nat} {s:AS} {w w':World} {μ:Mu} {H:Heap}
theorem AOp.lookupOk {o:Oper} {K:AS→Prop} {t kt et:TypeId} {m x:Operand} {id ver:Nat} {k:List UInt8} {es:List (List UInt8 × HV)} {T Tk Te:TyI} {z:HV} (hop:o.op=.lookup t m x true) (hN:okd N o.dst=true)
  (hT:ty P t=some T) (hTd:T.desc=.map kt et) (hTk:ty P kt=some Tk) (hTkd:Tk.desc=.string) (hTe:ty P et=some Te) (hz:constHV Te.zero=some z)
  (hm:s.ev m=some (.mp id ver)) (hx:s.ev x=some (.str k)) (hg:hget s.heap id=some (ver,.map es))
  (h:K (s.put o.dst (.tup [(alook k es).getD z,.bool (alook k es).isSome]))):AOp P ro N o K s:=by
 refine AOp.value (fun c e=>by rw [hop] at e; cases e) hN fun B μ a w hs=>?_;obtain ⟨b,hl,he,ents,clock,hb,hkeys,hvals,hborn,hlt,hnd,hkl⟩:=hs.liveMap (hs.ev hm) hg;obtain ⟨hxe,hxl⟩:=hs.ev hx
 have hkd:P.underlying kt=some .string:=by rw [← hTkd]; exact (ty_spec hTk).1
 have htd:P.underlying t=some (.map kt et):=by rw [← hTd]; exact (ty_spec hT).1
 have hk:(a.eval x)=strV k:=hxe;have hchk:=run_checkKey (P:=P) (w:=w) hkd (k:=strV k) (by simp [strV,IsKey]) ents.isEmpty 9999;have hzr:Rep w μ z Te.zero:=constHV_rep hz
 rcases find_str (k:=k) 0 hkeys hvals with ⟨h1,h2⟩ | ⟨j,e,h',h1,h2,h3,h4,h5,h6,h7,h8⟩
 ·refine ⟨.tuple #[Te.zero,.bool false],.tup [z,.bool false],μ,w,s.heap,?_,hs.sr,Evo.refl w μ,⟨[Te.zero,.bool false],rfl,_,_,rfl,hzr,_,_,rfl,rfl,rfl⟩,by rw [h1] at h; exact h⟩
  simp [execOp,hop,hk,he,Instr.lookup,run_underlying htd,MapKept.run_getObj_map hb,hchk,run_findKey hkd h2,ty_zero hTe,Result.andThen]
 refine ⟨.tuple #[e.val,.bool true],.tup [h',.bool true],μ,w,s.heap,?_,hs.sr,Evo.refl w μ,⟨[e.val,.bool true],rfl,_,_,rfl,h4,_,_,rfl,rfl,rfl⟩,by rw [h3] at h; exact h⟩;simp [execOp,hop,hk,he,Instr.lookup,run_underlying htd,MapKept.run_getObj_map hb,hchk,run_findKey hkd h5,Result.andThen]
section
variable {o:Oper} {sl:List (Nat × HV)} {H:Heap} {all:Array Oper} {rest:List Oper} {K:AS→Prop} {β:Type}
theorem b_opX (hg:o.guard=none) (h:okd N o.dst=true→AOp P ro N o (fun s'=>bops P ro N all rest K s') ⟨sl,H⟩):bops P ro N all (o::rest) K ⟨sl,H⟩:=by
 intro hok i hl;obtain ⟨ho,hN,hl'⟩:=b_step hok hl;rw [List.length_cons,List.range'_succ]
 refine AOps.cons ho hg fun w0 μ0 μ a w next Q hs hE hK=>?_
 exact h hN w0 μ0 μ a w next Q hs hE fun μ' s' a' w' hk hs' hE'=>hK μ' s' a' w' (hk hok (i+1) hl') hs' hE'
theorem one_opX {G:AS→Prop} {s:AS} (hk:AOp P ro N o (fun s'=>bops P ro N #[] [] G s') s):AOp P ro N o G s:=by
 intro w0 μ0 μ a w next Q hs hE hK
 refine hk w0 μ0 μ a w next Q hs hE fun μ' s' a' w' h' hs' hE'=>?_
 have hb:=h' (by simp) 0 (fun k=>by simp);have:=hb w0 μ0 μ' a' w' (fun _ a w=>next a w) hs' hE' (fun μ2 s2 a2 w2 hk2 hs2 hE2=>hK μ2 s2 a2 w2 hk2 hs2 hE2)
 simpa only [List.length_nil,List.range'_zero,wpOpsIn] using this
theorem y_opX {ops:Array Oper} {s:AS} {q:Nat} (hc:(daOk ops && Nat.ble (q+1) ops.size && waitOk ops q (q+1))=true) (ho:ops[q]?=some o) (hg:o.guard=none) (hN:okd N o.dst=true)
  (h:okd N o.dst=true→AOp P ro N o (fun s'=>bops P ro N #[] [] (nyops P ro N ops K (q+1)) s') s):nyops P ro N ops K q s:=by
 simp only [Bool.and_eq_true] at hc;obtain ⟨⟨h1,h2⟩,h3⟩:=hc;exact AnyAt.op h1 (Nat.le_of_ble_eq_true h2) h3 (AOpI.plain ho hg (one_opX (h hN)))
theorem o_lookOk (hN:okd N o.dst=true) (f:β→HV) {d:Nat} {t kt et:TypeId} {a b:Nat} {z:Value} {m x:Operand} {id ver:Nat} {k:List UInt8} {v:β} {es:List (List UInt8 × β)} {a2 b2:Nat} {z2:Value} {Te:TyI} {zh:HV} (h0:(o.dst,o.op)=(some d,.lookup t m x true)) (hT:ty P t=some ⟨.map kt et,a,b,z⟩) (hK:ty P kt=some ⟨.string,a2,b2,z2⟩) (hTe:ty P et=some Te) (hz:constHV Te.zero=some zh)
  (hm:(⟨sl,H⟩:AS).ev m=some (.mp id ver)) (hx:(⟨sl,H⟩:AS).ev x=some (.str k)) (hg:hget H id=some (ver,.map (entE f es))) (hl:((mlook k es).map f).getD zh=f v)
  (kk:bops P ro N all rest K ⟨(d,.tup [f v,.bool (mlook k es).isSome])::sl,H⟩):AOp P ro N o (fun s'=>bops P ro N all rest K s') ⟨sl,H⟩:=by
 obtain ⟨h2,h3⟩:=Prod.mk.inj h0;refine AOp.lookupOk h3 hN hT rfl hK rfl hTe hz hm hx hg ?_;rw [h2,alook_ent,hl]
 have e:(Option.map f (mlook k es)).isSome=(mlook k es).isSome:=by cases mlook k es <;> rfl
 rw [e];exact bops_le (put_le d _) kk
end
end
end
end Go.AW
