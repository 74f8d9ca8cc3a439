import Derived.DeepKeys
import Derived.Laws.AppendOwn
import Derived.Laws.BytesString
import Derived.Laws.Cover4
import Derived.Laws.IdiomRangeMap
import Derived.Laws.Tables
import Derived.MapKept
import Derived.Maps.RangeRun
import Derived.OpenShut
import Derived.OrdersIn
import Derived.RangeFuncIn
import Derived.RangeFuncLeaves
import Derived.WalkKit
namespace Go.AW
open Go
inductive HV where
 | int (k:IntKind) (n:Int)
 | bool (b:Bool)
 | str (l:List UInt8)
 | v (x:Value)
 | agg (cs:List HV)
 | tup (cs:List HV)
 | sl (k n:Nat) (cs:List HV)
 | ar (id ver k off n:Nat)
 | ptr (id ver off:Nat)
 | fptr (cs:List HV) (off:Nat)
 | fn (f:Fn) (first caps:List HV)
 | mp (id ver:Nat)
 | yl (id ver:Nat)
 | it (id ver:Nat)
 deriving Inhabited
structure Mu where
 nx:Nat
 loc:Nat→Option (Nat × Option Nat)
 /-- blocks that callers own -/
 held:Nat→Prop
def Mu.owned (μ:Mu) (b:Nat):Prop:=∃ id ver,μ.loc id=some (ver,some b)
def Mu.owns (μ:Mu) (b:Nat):Prop:=μ.owned b∨μ.held b
def Mu.dead (μ:Mu) (id ver:Nat):Prop:=ver<μ.nx∧∀ b,μ.loc id≠some (ver,b)
def Mu.ok (μ:Mu):Prop:=∀ id ver b,μ.loc id=some (ver,b)→ver<μ.nx
def HV.one:HV→Bool
 | .v x=>x.oneCell'
 | .agg _ | .tup _=>false
 | _=>true
def ones (cs:List HV):Prop:=∀ c∈cs,c.one=true
theorem ones.append {cs ds:List HV} (h:ones cs) (h':ones ds):ones (cs++ds):=fun c hc=>(List.mem_append.1 hc).elim (h c) (h' c)
theorem ones.take {cs:List HV} (h:ones cs) (n:Nat):ones (cs.take n):=fun c hc=>h c (List.mem_of_mem_take hc)
theorem ones.drop {cs:List HV} (h:ones cs) (n:Nat):ones (cs.drop n):=fun c hc=>h c (List.mem_of_mem_drop hc)
theorem ones.nil:ones []:=fun _ h=>by cases h
theorem ones.single {c:HV} (h:c.one=true):ones [c]:=fun d hd=>by simp at hd; exact hd ▸ h
theorem ones.set {cs:List HV} (h:ones cs) {c:HV} (hc:c.one=true) (i:Nat):ones (cs.set i c):=fun d hd=>(List.mem_or_eq_of_mem_set hd).elim (h d) (fun e=>e ▸ hc)
def Seg (w:World) (b off:Nat) (vs:List Value):Prop :=
 ∃ cur e fr pre post,w.heap[b]?=some (.cells cur e fr)∧cur.toList=pre++vs++post∧pre.length=off
def Row (w:World) (b:Nat) (cur:Array Value) (e:TypeId):Prop:=∃ lo hi,w.heap[b]?=some (.cells cur e (lo,hi))∧(hi≤lo∨cur.size≤lo)
theorem Row.lt {w:World} {b:Nat} {cur:Array Value} {e:TypeId} (h:Row w b cur e):b<w.heap.size:=by
 obtain ⟨lo,hi,h,_⟩:=h;exact (Array.getElem?_eq_some_iff.1 h).1
theorem Row.free {w:World} {b:Nat} {cur:Array Value} {e:TypeId} (h:Row w b cur e) {i:Nat} (hi:i<cur.size):w.frozen? ⟨b,i,none⟩=false:=by
 obtain ⟨lo,hi',h,hf⟩:=h;simp only [World.frozen?,h]
 rcases hf with hf | hf <;> simp <;> omega
theorem Row.cell {w:World} {b:Nat} {cur:Array Value} {e:TypeId} (h:Row w b cur e) (i:Nat):w.cell? ⟨b,i,none⟩=cur[i]?:=by
 obtain ⟨lo,hi',h,hf⟩:=h;simp only [World.cell?,h];simp
theorem Row.of_heap {w w':World} {b:Nat} {cur:Array Value} {e:TypeId} (h:Row w b cur e) (hh:w'.heap[b]?=w.heap[b]?):Row w' b cur e:=by
 obtain ⟨lo,hi,h,hf⟩:=h;exact ⟨lo,hi,hh.trans h,hf⟩
theorem Row.inj {w:World} {b:Nat} {cur cur':Array Value} {e e':TypeId} (h:Row w b cur e) (h':Row w b cur' e'):cur=cur'∧e=e':=by
 obtain ⟨lo,hi,h,_⟩:=h;obtain ⟨lo',hi',h',_⟩:=h';rw [h] at h';cases h';exact ⟨rfl,rfl⟩
mutual
def Rep (w:World) (μ:Mu):HV→Value→Prop
  | .int k n,val=>val=.int k n∧(Lit.int k n).wf=true
  | .bool b,val=>val=.bool b
  | .str l,val=>val=.string ⟨l.toArray⟩∧l.length≤maxLen
  | .v x,val=>val=x
  | .agg cs,val=>ones cs∧∃ vs,val=.agg vs.toArray∧RepL w μ cs vs
  | .tup cs,val=>∃ vs,val=.tuple vs.toArray∧RepL w μ cs vs
  | .sl k n cs,val=>ones cs∧cs.length=n*k∧n≤maxLen∧((n=0∧∃ a,val=.slice a 0 0) ∨
      ∃ b off cap vs,val=.slice (some ⟨b,off,none⟩) n cap∧n≤cap∧¬ μ.owns b∧Seg w b off vs∧RepL w μ cs vs)
  | .ar id ver k off n,val=>(∃ l,μ.loc id=some (ver,l) ∧
        ((l=none∧val=.slice none 0 0∧n=0∧off=0) ∨
         ∃ b cap cur e,l=some b∧val=.slice (some ⟨b,off,none⟩) n cap∧n≤cap∧cap≤maxLen∧Row w b cur e∧off+cap*k=cur.size)) ∨
      (μ.dead id ver∧∃ a m c,val=.slice a m c)
  | .ptr id ver off,val=>(∃ b,μ.loc id=some (ver,some b)∧val=.pointer (some ⟨b,off,none⟩))∨(μ.dead id ver∧∃ a,val=.pointer a)
  | .fptr cs off,val=>ones cs∧∃ b base vs,val=.pointer (some ⟨b,base+off,none⟩)∧¬ μ.owns b∧Seg w b base vs∧RepL w μ cs vs
  | .fn f fs cs,val=>∃ us vs,val=.func f us.toArray vs.toArray∧RepL w μ fs us∧RepL w μ cs vs
  | .mp id ver,val=>(∃ b,μ.loc id=some (ver,some b)∧val=.map (some b))∨(μ.dead id ver∧∃ r,val=.map r)
  | .yl id ver,val=>(∃ b,μ.loc id=some (ver,some b)∧val=.func (.yield b) #[] #[])∨(μ.dead id ver∧∃ l,val=.func (.yield l) #[] #[])
  | .it id ver,val=>(∃ b,μ.loc id=some (ver,some b)∧val=.pointer (some ⟨b,0,none⟩))∨(μ.dead id ver∧∃ a,val=.pointer a)
def RepL (w:World) (μ:Mu):List HV→List Value→Prop
 | [],vs=>vs=[]
 | c::cs,vs=>∃ x xs,vs=x::xs∧Rep w μ c x∧RepL w μ cs xs
end
structure Evo (w:World) (μ:Mu) (w':World) (μ':Mu):Prop where
 os:w'.os=w.os
 tape:w'.tape=w.tape
 output:w'.output=w.output
 drawn:w.drawn≤w'.drawn
 size:w.heap.size≤w'.heap.size
 nx:μ.nx≤μ'.nx
 keep:∀ b,b<w.heap.size→¬ μ.owned b→w'.heap[b]?=w.heap[b]?
 loc:∀ id ver b,μ'.loc id=some (ver,b)→ver<μ.nx→μ.loc id=some (ver,b)
 row:∀ id ver b,μ'.loc id=some (ver,some b)→ver<μ.nx→∀ cur e,Row w b cur e→∃ cur',Row w' b cur' e∧cur'.size=cur.size
 own:∀ id ver b,μ'.loc id=some (ver,some b)→b<w.heap.size→μ.owned b
 held:μ'.held=μ.held
theorem Evo.refl (w:World) (μ:Mu):Evo w μ w μ :=
 ⟨rfl,rfl,rfl,Nat.le_refl _,Nat.le_refl _,Nat.le_refl _,fun _ _ _=>rfl,fun _ _ _ h _=>h,fun _ _ _ _ _ cur _ h=>⟨cur,h,rfl⟩,fun id ver _ h _=>⟨id,ver,h⟩,rfl⟩
theorem Evo.owned_of {w:World} {μ:Mu} {w':World} {μ':Mu} (E:Evo w μ w' μ') {b:Nat} (hb:b<w.heap.size) (h:¬ μ.owned b):¬ μ'.owned b :=
 fun ⟨id,ver,h'⟩=>h (E.own id ver b h' hb)
theorem Evo.owns_of {w:World} {μ:Mu} {w':World} {μ':Mu} (E:Evo w μ w' μ') {b:Nat} (hb:b<w.heap.size) (h:¬ μ.owns b):¬ μ'.owns b :=
 fun h'=>h'.elim (fun h1=>E.owned_of hb (fun h2=>h (.inl h2)) h1) (fun h1=>h (.inr (E.held ▸ h1)))
theorem Evo.trans {w:World} {μ:Mu} {w1:World} {μ1:Mu} {w2:World} {μ2:Mu} (E1:Evo w μ w1 μ1) (E2:Evo w1 μ1 w2 μ2):Evo w μ w2 μ2 where
 os:=E2.os.trans E1.os
 tape:=E2.tape.trans E1.tape
 output:=E2.output.trans E1.output
 drawn:=Nat.le_trans E1.drawn E2.drawn
 size:=Nat.le_trans E1.size E2.size
 nx:=Nat.le_trans E1.nx E2.nx
 keep:=fun b hb ho=>(E2.keep b (Nat.lt_of_lt_of_le hb E1.size) (E1.owned_of hb ho)).trans (E1.keep b hb ho)
 loc:=fun id ver b h hv=>E1.loc id ver b (E2.loc id ver b h (Nat.lt_of_lt_of_le hv E1.nx)) hv
 row:=fun id ver b h hv cur e hc=>by
  have h1:=E2.loc id ver _ h (Nat.lt_of_lt_of_le hv E1.nx);obtain ⟨cur1,hc1,hs1⟩:=E1.row id ver b h1 hv cur e hc;obtain ⟨cur2,hc2,hs2⟩:=E2.row id ver b h (Nat.lt_of_lt_of_le hv E1.nx) cur1 e hc1;exact ⟨cur2,hc2,hs2.trans hs1⟩
 own:=fun id ver b h hb=>by
  obtain ⟨id',ver',h'⟩:=E2.own id ver b h (Nat.lt_of_lt_of_le hb E1.size);exact E1.own id' ver' b h' hb
 held:=E2.held.trans E1.held
theorem Evo.dead {w:World} {μ:Mu} {w':World} {μ':Mu} (E:Evo w μ w' μ') {id ver:Nat} (h:μ.dead id ver):μ'.dead id ver :=
 ⟨Nat.lt_of_lt_of_le h.1 E.nx,fun b hb=>h.2 b (E.loc id ver b hb h.1)⟩
theorem Evo.live_or {w:World} {μ:Mu} {w':World} {μ':Mu} (E:Evo w μ w' μ') (hok:μ.ok) {id ver:Nat} {l:Option Nat} (h:μ.loc id=some (ver,l)) :
  μ'.loc id=some (ver,l)∨μ'.dead id ver:=by
 by_cases hx:∃ b,μ'.loc id=some (ver,b)
 ·obtain ⟨b,hb⟩:=hx
  have:=E.loc id ver b hb (hok _ _ _ h);rw [h] at this;cases this;exact .inl hb
 exact .inr ⟨Nat.lt_of_lt_of_le (hok _ _ _ h) E.nx,fun b hb=>hx ⟨b,hb⟩⟩
theorem Seg.lt {w:World} {b off:Nat} {vs:List Value} (h:Seg w b off vs):b<w.heap.size:=by
 obtain ⟨cur,e,fr,pre,post,h,_⟩:=h;exact (Array.getElem?_eq_some_iff.1 h).1
theorem Seg.evo {w:World} {μ:Mu} {w':World} {μ':Mu} (E:Evo w μ w' μ') {b off:Nat} {vs:List Value} (ho:¬ μ.owns b) (h:Seg w b off vs):Seg w' b off vs:=by
 have hb:=h.lt;obtain ⟨cur,e,fr,pre,post,h1,h2,h3⟩:=h;exact ⟨cur,e,fr,pre,post,(E.keep b hb (fun h=>ho (.inl h))).trans h1,h2,h3⟩
mutual
theorem Rep.evo {w:World} {μ:Mu} {w':World} {μ':Mu} (E:Evo w μ w' μ') (hok:μ.ok):∀ (hv:HV) (val:Value),Rep w μ hv val→Rep w' μ' hv val
 | .int _ _,_,h=>h
 | .bool _,_,h=>h
 | .str _,_,h=>h
 | .v _,_,h=>h
 | .agg cs,_,⟨h1,vs,e,h⟩=>⟨h1,vs,e,RepL.evo E hok cs vs h⟩
 | .tup cs,_,⟨vs,e,h⟩=>⟨vs,e,RepL.evo E hok cs vs h⟩
 | .sl _ _ cs,_,⟨h1,hl,hm,h⟩=>⟨h1,hl,hm,h.imp id fun ⟨b,off,cap,vs,e,hn,ho,hs,hr⟩ =>
   ⟨b,off,cap,vs,e,hn,E.owns_of hs.lt ho,hs.evo E ho,RepL.evo E hok cs vs hr⟩⟩
 | .ar id ver k off n,val,h=>by
  rcases h with ⟨l,hl,h⟩ | ⟨hd,h⟩
  ·rcases E.live_or hok hl with hl' | hd
   ·refine .inl ⟨l,hl',?_⟩
    rcases h with h | ⟨b,cap,cur,e,rfl,hv,hn,hc,hh,hsz⟩
    ·exact .inl h
    obtain ⟨cur',hc',hs'⟩:=E.row id ver b hl' (hok _ _ _ hl) cur e hh;exact .inr ⟨b,cap,cur',e,rfl,hv,hn,hc,hc',by omega⟩
   refine .inr ⟨hd,?_⟩
   rcases h with ⟨_,rfl,_⟩ | ⟨b,cap,cur,e,rfl,rfl,_⟩
   ·exact ⟨_,_,_,rfl⟩
   exact ⟨_,_,_,rfl⟩
  exact .inr ⟨E.dead hd,h⟩
 | .ptr id ver off,val,h=>by
  rcases h with ⟨b,hl,rfl⟩ | ⟨hd,h⟩
  ·rcases E.live_or hok hl with hl' | hd
   ·exact .inl ⟨b,hl',rfl⟩
   exact .inr ⟨hd,_,rfl⟩
  exact .inr ⟨E.dead hd,h⟩
 | .fptr cs _,_,⟨h1,b,base,vs,e,ho,hs,hr⟩=>⟨h1,b,base,vs,e,E.owns_of hs.lt ho,hs.evo E ho,RepL.evo E hok cs vs hr⟩
 | .fn _ fs cs,_,⟨us,vs,e,h1,h2⟩=>⟨us,vs,e,RepL.evo E hok fs us h1,RepL.evo E hok cs vs h2⟩
 | .mp id ver,val,h=>by
  rcases h with ⟨b,hl,rfl⟩ | ⟨hd,h⟩
  ·rcases E.live_or hok hl with hl' | hd
   ·exact .inl ⟨b,hl',rfl⟩
   exact .inr ⟨hd,_,rfl⟩
  exact .inr ⟨E.dead hd,h⟩
 | .yl id ver,val,h=>by
  rcases h with ⟨b,hl,rfl⟩ | ⟨hd,h⟩
  ·rcases E.live_or hok hl with hl' | hd
   ·exact .inl ⟨b,hl',rfl⟩
   exact .inr ⟨hd,_,rfl⟩
  exact .inr ⟨E.dead hd,h⟩
 | .it id ver,val,h=>by
  rcases h with ⟨b,hl,rfl⟩ | ⟨hd,h⟩
  ·rcases E.live_or hok hl with hl' | hd
   ·exact .inl ⟨b,hl',rfl⟩
   exact .inr ⟨hd,_,rfl⟩
  exact .inr ⟨E.dead hd,h⟩
theorem RepL.evo {w:World} {μ:Mu} {w':World} {μ':Mu} (E:Evo w μ w' μ') (hok:μ.ok):∀ (cs:List HV) (vs:List Value),RepL w μ cs vs→RepL w' μ' cs vs
 | [],_,h=>h
 | c::cs,_,⟨x,xs,e,h1,h2⟩=>⟨x,xs,e,Rep.evo E hok c x h1,RepL.evo E hok cs xs h2⟩
end
theorem RepL.length {w:World} {μ:Mu}:∀ {cs:List HV} {vs:List Value},RepL w μ cs vs→vs.length=cs.length
 | [],_,h=>by simp [RepL] at h; simp [h]
 | _::_,_,⟨_,_,e,_,h⟩=>by simp [e,RepL.length h]
theorem RepL.append {w:World} {μ:Mu}:∀ {cs ds:List HV} {vs us:List Value},RepL w μ cs vs→RepL w μ ds us→RepL w μ (cs++ds) (vs++us)
 | [],_,_,_,h,h'=>by simp only [RepL] at h; subst h; exact h'
 | _::_,_,_,_,⟨x,xs,e,h1,h2⟩,h'=>⟨x,xs++_,by simp [e],h1,RepL.append h2 h'⟩
theorem RepL.split {w:World} {μ:Mu}:∀ {cs ds:List HV} {vs:List Value},RepL w μ (cs++ds) vs→∃ a b,vs=a++b∧RepL w μ cs a∧RepL w μ ds b
 | [],_,vs,h=>⟨[],vs,rfl,rfl,h⟩
 | _::_,_,_,⟨x,xs,e,h1,h2⟩=>by
  obtain ⟨a,b,rfl,ha,hb⟩:=RepL.split h2;exact ⟨x::a,b,by simp [e],⟨x,a,rfl,h1,ha⟩,hb⟩
theorem RepL.get {w:World} {μ:Mu}:∀ {cs:List HV} {vs:List Value} (_:RepL w μ cs vs) {i:Nat} {c:HV},cs[i]?=some c→∃ x,vs[i]?=some x∧Rep w μ c x
 | [],_,_,i,c,hi=>by simp at hi
 | d::cs,_,⟨x,xs,e,h1,h2⟩,i,c,hi=>by
  subst e
  cases i with
  | zero=>simp at hi; subst hi; exact ⟨x,rfl,h1⟩
  | succ i=>simp at hi; obtain ⟨y,hy,hr⟩:=RepL.get h2 hi; exact ⟨y,by simpa using hy,hr⟩
theorem RepL.set {w:World} {μ:Mu}:∀ {cs:List HV} {vs:List Value} (_:RepL w μ cs vs) {c:HV} {x:Value} (_:Rep w μ c x) (i:Nat),RepL w μ (cs.set i c) (vs.set i x)
 | [],_,h,_,_,_,i=>by simp only [RepL] at h; subst h; simp [RepL]
 | _::_,_,⟨y,ys,e,h1,h2⟩,c,x,hx,i=>by
  subst e
  cases i with
  | zero=>exact ⟨x,ys,rfl,hx,h2⟩
  | succ i=>exact ⟨y,ys.set i x,rfl,h1,RepL.set h2 hx i⟩
theorem RepL.drop {w:World} {μ:Mu} {cs:List HV} {vs:List Value} (h:RepL w μ cs vs) (i:Nat):RepL w μ (cs.drop i) (vs.drop i):=by
 by_cases hi:i≤cs.length
 ·have h':RepL w μ (cs.take i++cs.drop i) vs:=by rw [List.take_append_drop]; exact h
  obtain ⟨a,b,rfl,ha,hb⟩:=h'.split;have hl:=ha.length;rw [List.length_take,Nat.min_eq_left hi] at hl;rw [← hl,List.drop_left]; rw [hl]; exact hb
 rw [List.drop_eq_nil_of_le (by omega),List.drop_eq_nil_of_le (by have:=h.length; omega)]; rfl
theorem RepL.take {w:World} {μ:Mu} {cs:List HV} {vs:List Value} (h:RepL w μ cs vs) (i:Nat):RepL w μ (cs.take i) (vs.take i):=by
 by_cases hi:i≤cs.length
 ·have h':RepL w μ (cs.take i++cs.drop i) vs:=by rw [List.take_append_drop]; exact h
  obtain ⟨a,b,rfl,ha,hb⟩:=h'.split;have hl:=ha.length;rw [List.length_take,Nat.min_eq_left hi] at hl;rw [← hl,List.take_left]; rw [hl]; exact ha
 rw [List.take_of_length_le (by omega),List.take_of_length_le (by have:=h.length; omega)]; exact h
theorem Seg.sub {w:World} {b off:Nat} {vs us ws:List Value} (h:Seg w b off (vs++us++ws)):Seg w b (off+vs.length) us:=by
 obtain ⟨cur,e,fr,pre,post,h1,h2,h3⟩:=h;exact ⟨cur,e,fr,pre++vs,ws++post,h1,by rw [h2]; simp,by simp [h3]⟩
theorem Seg.drop {w:World} {b off:Nat} {vs:List Value} (h:Seg w b off vs) (i:Nat) (hi:i≤vs.length):Seg w b (off+i) (vs.drop i):=by
 have h':Seg w b off (vs.take i++vs.drop i++[]):=by rw [List.append_nil,List.take_append_drop]; exact h
 have:=h'.sub
 rwa [List.length_take,Nat.min_eq_left hi] at this
theorem Seg.take {w:World} {b off:Nat} {vs:List Value} (h:Seg w b off vs) (i:Nat):Seg w b off (vs.take i):=by
 have h':Seg w b off ([]++vs.take i++vs.drop i):=by rw [List.nil_append,List.take_append_drop]; exact h
 exact h'.sub
theorem Seg.cell {w:World} {b off:Nat} {vs:List Value} (h:Seg w b off vs) {i:Nat} {x:Value} (hi:vs[i]?=some x):w.cell? ⟨b,off+i,none⟩=some x:=by
 obtain ⟨cur,e,fr,pre,post,h1,h2,h3⟩:=h
 have hlt:i<vs.length:=by
  rcases Nat.lt_or_ge i vs.length with h | h
  ·exact h
  rw [List.getElem?_eq_none h] at hi; cases hi
 simp only [World.cell?,h1];rw [← Array.getElem?_toList,h2,← h3,List.append_assoc,List.getElem?_append_right (by omega)];simp only [Option.isSome_none,Bool.false_eq_true,if_false,Nat.add_sub_cancel_left];rw [List.getElem?_append_left hlt]; exact hi
theorem Rep.oneCell {w:World} {μ:Mu} {hv:HV} {val:Value} (h1:hv.one=true) (h:Rep w μ hv val):val.oneCell'=true:=by
 cases hv with
 | int k n=>obtain ⟨rfl,_⟩:=h; rfl
 | bool b=>obtain rfl:=h; rfl
 | str l=>obtain ⟨rfl,_⟩:=h; rfl
 | v x=>obtain rfl:=h; exact h1
 | agg cs=>simp [HV.one] at h1
 | tup cs=>simp [HV.one] at h1
 | sl k n cs=>rcases h with ⟨_,_,_,⟨_,_,rfl⟩ | ⟨b,off,cap,vs,rfl,_⟩⟩ <;> rfl
 | ar id ver k off n =>
  rcases h with ⟨l,_,⟨_,rfl,_⟩ | ⟨b,cap,cur,e,_,rfl,_⟩⟩ | ⟨_,a,m,c,rfl⟩ <;> rfl
 | ptr id ver off=>rcases h with ⟨b,_,rfl⟩ | ⟨_,a,rfl⟩ <;> rfl
 | fptr cs off=>obtain ⟨_,b,base,vs,rfl,_⟩:=h; rfl
 | fn f fs cs=>obtain ⟨us,vs,rfl,_⟩:=h; rfl
 | mp id ver=>rcases h with ⟨b,_,rfl⟩ | ⟨_,a,rfl⟩ <;> rfl
 | yl id ver=>rcases h with ⟨b,_,rfl⟩ | ⟨_,a,rfl⟩ <;> rfl
 | it id ver=>rcases h with ⟨b,_,rfl⟩ | ⟨_,a,rfl⟩ <;> rfl
theorem RepL.oneCells {w:World} {μ:Mu}:∀ {cs:List HV} {vs:List Value},ones cs→RepL w μ cs vs→∀ v∈vs,v.oneCell'=true
 | [],vs,_,h=>by simp only [RepL] at h; subst h; simp
 | c::cs,vs,ho,⟨x,xs,e,h1,h2⟩=>by
  subst e;intro v hv
  rcases List.mem_cons.1 hv with rfl | hv
  ·exact h1.oneCell (ho c (List.mem_cons_self ..))
  exact RepL.oneCells (fun d hd=>ho d (List.mem_cons_of_mem _ hd)) h2 v hv
def gNos:List Nat:=[]
def gTabs:List (Nat × List UInt8):=[]
inductive AObj where
 | arr (k:Nat) (e:TypeId) (cs:List HV)
 | map (es:List (List UInt8 × HV))
 | iter (mid mver:Nat) (seen:List (List UInt8)) (cur:Bool)
 | loop (st:LoopState) (pend:Option Code) (f:FuncId) (n:Nat) (snap:List (Nat × HV)) (ps:Array Tmp) (assign body:Code)
 | kmap (es:List (Value × Value))
 | gmap (es:List (Value × HV)) (pe:Option (Nat × Value))
 deriving Inhabited
abbrev Heap:=List (Nat × Nat × AObj)
def hget:Heap→Nat→Option (Nat × AObj)
 | [],_=>none
 | (i,v,o)::h,id=>if id=i then some (v,o) else hget h id
def hset:Heap→Nat→Nat→AObj→Heap
 | [],id,v,o=>[(id,v,o)]
 | (i,w,p)::h,id,v,o=>if id=i then (i,v,o)::h else (i,w,p)::hset h id v o
theorem hget_hset (h:Heap) (id v:Nat) (o:AObj) (j:Nat):hget (hset h id v o) j=if j=id then some (v,o) else hget h j:=by
 induction h with
 | nil=>simp [hset,hget]
 | cons x h ih =>
  obtain ⟨i,w,p⟩:=x;simp only [hset];split
  ·rename_i he
   subst he;simp only [hget]
   split <;> simp_all
  rename_i hne
  simp only [hget,ih];by_cases hj:j=i
  ·subst hj
   rw [if_pos rfl,if_neg (fun e=>hne e.symm),if_pos rfl]
  rw [if_neg hj,if_neg hj]
def sget:List (Nat × HV)→Nat→Option HV
 | [],_=>none
 | (i,v)::l,t=>if t=i then some v else sget l t
def sset:List (Nat × HV)→Nat→HV→List (Nat × HV)
 | [],t,v=>[(t,v)]
 | (i,u)::l,t,v=>if t=i then (i,v)::l else (i,u)::sset l t v
theorem sget_sset (l:List (Nat × HV)) (t:Nat) (v:HV) (j:Nat):sget (sset l t v) j=if j=t then some v else sget l j:=by
 induction l with
 | nil=>simp [sset,sget]
 | cons x l ih =>
  obtain ⟨i,u⟩:=x;simp only [sset];split
  ·rename_i he
   subst he;simp only [sget]
   split <;> simp_all
  rename_i hne
  simp only [sget,ih];by_cases hj:j=i
  ·subst hj
   rw [if_pos rfl,if_neg (fun e=>hne e.symm),if_pos rfl]
  rw [if_neg hj,if_neg hj]
def strV (l:List UInt8):Value:=.string ⟨l.toArray⟩
def codeV:Value→List UInt8
 | .string s=>s.data.toList
 | .agg ⟨[.string a,.string b]⟩=>List.replicate a.data.toList.length 1++0::(a.data.toList++b.data.toList)
 | _=>[]
theorem codeV_strV (k:List UInt8):codeV (strV k)=k:=by simp [codeV,strV]
def OR (w:World) (μ:Mu):AObj→Option Nat→Prop
 | .arr _ _ cs,none=>cs=[]
 | .arr _ e cs,some b=>ones cs∧∃ cur vs rest,Row w b cur e∧cur.toList=vs++rest∧RepL w μ cs vs
 | .map es,some b=>∃ ents clock,w.heap[b]?=some (.map ents clock)∧ents.toList.map (·.key)=es.map (fun x=>strV x.1)∧RepL w μ (es.map (·.2)) (ents.toList.map (·.val)) ∧
   (ents.toList.map (·.born)).Nodup∧(∀ x∈ents.toList,x.born<clock)∧(es.map (·.1)).Nodup∧∀ x∈es,x.1.length≤maxLen
 | .iter mid mver seen cur,some b=>mver<μ.nx∧∃ mb since sn last,w.heap[b]?=some (.mapIter (some mb) since sn last) ∧
   ∀ l,μ.loc mid=some (mver,l)→l=some mb∧∃ ents clock,w.heap[mb]?=some (.map ents clock)∧since=clock∧last=clock ∧
    (∀ x∈ents.toList,(x.born∈sn.toList↔∃ k∈seen,codeV x.key=k))∧(cur=true→∃ k,seen.head?=some k∧∃ x∈ents.toList,codeV x.key=k∧sn.back?=some x.born)
 | .loop st pend f n snap ps assign body,some b=>∃ tmps dfr,w.heap[b]?=some (.loop { state:=st,pending:=pend,fn:=f,tmps:=tmps,params:=ps,assign:=assign,body:=body,defers:=dfr }) ∧
   tmps.size=n∧∀ t hv,sget snap t=some hv→t<n∧Rep w μ hv (tmps.getD t undef)
 | .kmap es,some b=>∃ ents clock,w.heap[b]?=some (.map ents clock)∧ents.toList.map (fun x=>(x.key,x.val))=es
 | .gmap es pe,some b=>∃ ents clock,w.heap[b]?=some (.map ents clock)∧ents.toList.map (·.key)=es.map (·.1)∧RepL w μ (es.map (·.2)) (ents.toList.map (·.val)) ∧
   (ents.toList.map (·.born)).Nodup∧(∀ x∈ents.toList,x.born<clock)∧(es.map (·.1)).Nodup∧∀ p,pe=some p→∃ x∈ents.toList,x.born=p.1∧x.key=p.2
 | _,none=>False
structure SR (w:World) (μ:Mu) (H:Heap):Prop where
 ok:μ.ok
 has:∀ id ver o,hget H id=some (ver,o)→∃ l,μ.loc id=some (ver,l)∧OR w μ o l
 only:∀ id x,μ.loc id=some x→∃ y,hget H id=some y
 inj:∀ i j v u b,μ.loc i=some (v,some b)→μ.loc j=some (u,some b)→i=j
 held:∀ b,μ.held b→b<w.heap.size∧¬ μ.owned b
theorem OR.lt {w:World} {μ:Mu} {o:AObj} {b:Nat} (h:OR w μ o (some b)):b<w.heap.size:=by
 cases o with
 | arr k e cs=>obtain ⟨_,cur,vs,rest,h,_⟩:=h; exact h.lt
 | map es=>obtain ⟨ents,clock,h,_⟩:=h; exact (Array.getElem?_eq_some_iff.1 h).1
 | iter mid mver seen cur=>obtain ⟨_,mb,since,sn,last,h,_⟩:=h; exact (Array.getElem?_eq_some_iff.1 h).1
 | loop st pend f n snap ps assign body=>obtain ⟨tmps,dfr,h,_⟩:=h; exact (Array.getElem?_eq_some_iff.1 h).1
 | kmap es=>obtain ⟨ents,clock,h,_⟩:=h; exact (Array.getElem?_eq_some_iff.1 h).1
 | gmap es pe=>obtain ⟨ents,clock,h,_⟩:=h; exact (Array.getElem?_eq_some_iff.1 h).1
theorem OR.evo {w:World} {μ:Mu} {w':World} {μ':Mu} (E:Evo w μ w' μ') (hok:μ.ok) {o:AObj} {l:Option Nat} (h:OR w μ o l)
  (hb:∀ b,l=some b→w'.heap[b]?=w.heap[b]?)
  (hm:∀ mid mver seen cur,o=.iter mid mver seen cur→∀ mb,μ.loc mid=some (mver,some mb)→μ'.loc mid=some (mver,some mb)→w'.heap[mb]?=w.heap[mb]?):OR w' μ' o l:=by
 cases l with
 | none=>cases o with
  | arr k e cs=>exact h
  | _=>exact h.elim
 | some b =>
  have hb:=hb b rfl
  cases o with
  | arr k e cs =>
   obtain ⟨h0,cur,vs,rest,h1,h2,h3⟩:=h;exact ⟨h0,cur,vs,rest,h1.of_heap hb,h2,RepL.evo E hok cs vs h3⟩
  | map es =>
   obtain ⟨ents,clock,h1,h2,h3,h4,h5⟩:=h;exact ⟨ents,clock,hb.trans h1,h2,RepL.evo E hok _ _ h3,h4,h5⟩
  | iter mid mver seen cur =>
   obtain ⟨h0,mb,since,sn,last,h1,h2⟩:=h;refine ⟨Nat.lt_of_lt_of_le h0 E.nx,mb,since,sn,last,hb.trans h1,fun l hl=>?_⟩;have hl0:=E.loc mid mver l hl h0;obtain ⟨rfl,ents,clock,h3,h4⟩:=h2 l hl0;exact ⟨rfl,ents,clock,(hm _ _ _ _ rfl mb hl0 hl).trans h3,h4⟩
  | loop st pend f n snap ps assign body =>
   obtain ⟨tmps,dfr,h1,h2,h3⟩:=h;exact ⟨tmps,dfr,hb.trans h1,h2,fun t hv ht=>⟨(h3 t hv ht).1,Rep.evo E hok hv _ (h3 t hv ht).2⟩⟩
  | kmap es =>
   obtain ⟨ents,clock,h1,h2⟩:=h;exact ⟨ents,clock,hb.trans h1,h2⟩
  | gmap es pe =>
   obtain ⟨ents,clock,h1,h2,h3,h4⟩:=h;exact ⟨ents,clock,hb.trans h1,h2,RepL.evo E hok _ _ h3,h4⟩
structure AS where
 slots:List (Nat × HV)
 heap:Heap
 deriving Inhabited
def Marks (B:Nat) (w:World) (μ:Mu) (ds:List Deferred):Prop :=
 ∃ rs:List Nat,ds=rs.map (fun r=>{ target:=.collected r,args:=#[] })∧rs.Nodup∧∀ r∈rs,B≤r∧w.heap[r]?=some (.deferred (some []))∧¬ μ.owned r
theorem Marks.evo {B:Nat} {w:World} {μ:Mu} {w':World} {μ':Mu} (E:Evo w μ w' μ') {ds:List Deferred} (h:Marks B w μ ds):Marks B w' μ' ds:=by
 obtain ⟨rs,h1,h2,h3⟩:=h;refine ⟨rs,h1,h2,fun r hr=>?_⟩;obtain ⟨h0,h4,h5⟩:=h3 r hr;have hlt:=(Array.getElem?_eq_some_iff.1 h4).1;exact ⟨h0,(E.keep r hlt h5).trans h4,E.owned_of hlt h5⟩
theorem Marks.nil (B:Nat) (w:World) (μ:Mu):Marks B w μ []:=⟨[],rfl,List.nodup_nil,fun _ h=>by cases h⟩
def GlOk (w:World) (μ:Mu):Prop:=(∀ g∈gNos,(∃ m,w.cell? ⟨g,0,none⟩=some (.int .i64 m))∧¬ μ.owned g) ∧
 ∀ p∈gTabs,∀ i c,p.2[i]?=some c→w.cell? ⟨p.1,i,none⟩=some (.int .u8 (c.toNat:Int))∧¬ μ.owned p.1
def RoOk (_:Option Nat) (w:World) (μ:Mu):Prop:=GlOk w μ
theorem GlOk.evo {w:World} {μ:Mu} {w':World} {μ':Mu} (E:Evo w μ w' μ') (h:GlOk w μ):GlOk w' μ':=by
 refine ⟨fun g hg=>?_,fun p hp i c hc=>?_⟩
 ·obtain ⟨⟨m,hm⟩,ho⟩:=h.1 g hg
  have hlt:g<w.heap.size:=World.block_lt_of_cell? _ _ hm;refine ⟨⟨m,?_⟩,E.owned_of hlt ho⟩;have e:=E.keep g hlt ho;simp only [World.cell?,e] at hm ⊢;exact hm
 obtain ⟨hm,ho⟩:=h.2 p hp i c hc;have hlt:p.1<w.heap.size:=World.block_lt_of_cell? _ _ hm;refine ⟨?_,E.owned_of hlt ho⟩;have e:=E.keep p.1 hlt ho;simp only [World.cell?,e] at hm ⊢;exact hm
theorem GlOk.less {w:World} {μ μ':Mu} (h:GlOk w μ) (ho:∀ b,μ'.owned b→μ.owned b):GlOk w μ':=⟨fun g hg=>⟨(h.1 g hg).1,fun hb=>(h.1 g hg).2 (ho g hb)⟩,fun p hp i c hc=>⟨(h.2 p hp i c hc).1,fun hb=>(h.2 p hp i c hc).2 (ho p.1 hb)⟩⟩
theorem RoOk.evo {ro:Option Nat} {w:World} {μ:Mu} {w':World} {μ':Mu} (E:Evo w μ w' μ') (h:RoOk ro w μ):RoOk ro w' μ':=GlOk.evo E h
structure SRel (ro:Option Nat) (N B:Nat) (μ:Mu) (s:AS) (a:Act) (w:World):Prop where
 size:a.tmps.size=N
 sr:SR w μ s.heap
 slot:∀ t hv,sget s.slots t=some hv→t<N∧Rep w μ hv (a.tmps.getD t undef)
 marks:Marks B w μ a.defers
 ro:RoOk ro w μ
def fence (ro:Option Nat):Fence:={ Fence.wide with round:=ro }
theorem fence_round (ro:Option Nat):(fence ro).round=ro:=rfl
theorem fence_depth (ro:Option Nat):(fence ro).depth.isSome=true→1≤0:=fun h=>by simp [fence,Fence.wide] at h
def Post (ro:Option Nat) (N:Nat) (Q:Exit→AS→Prop) (w0:World) (μ0:Mu) (e:Exit) (a:Act) (w:World):Prop :=
 (∀ ch,e ≠ .panic ch)∧e ≠ .outgrown∧∃ μ s,Q e s∧SRel ro N w0.heap.size μ s a w∧Evo w0 μ0 w μ
def AW (P:Program) (ro:Option Nat) (N:Nat) (c:Code) (Q:Exit→AS→Prop) (s:AS):Prop :=
 ∀ w0 μ0 μ a w,SRel ro N w0.heap.size μ s a w→Evo w0 μ0 w μ→c.wpIn (fence ro) 0 P (Post ro N Q w0 μ0) a w
section rules
variable {P:Program} {ro:Option Nat} {N B:Nat} {Q:Exit→AS→Prop} {s:AS}
theorem Post.mono {Q':Exit→AS→Prop} {w0:World} {μ0:Mu} {e:Exit} {a:Act} {w:World} (hq:∀ e s,Q e s→Q' e s) (h:Post ro N Q w0 μ0 e a w):Post ro N Q' w0 μ0 e a w :=
 let ⟨h1,h2,μ,s,h3,h4⟩:=h; ⟨h1,h2,μ,s,hq _ _ h3,h4⟩
theorem AW.mono {c:Code} {Q':Exit→AS→Prop} (h:AW P ro N c Q s) (hq:∀ e s,Q e s→Q' e s):AW P ro N c Q' s :=
 fun w0 μ0 μ a w hs hE=>wpIn_mono (h w0 μ0 μ a w hs hE) fun _ _ _ hp=>hp.mono hq
def AS.le (s s':AS):Prop:=(∀ t hv,sget s'.slots t=some hv→sget s.slots t=some hv)∧∀ id x,hget s'.heap id=some x→hget s.heap id=some x
def Mu.cut (μ:Mu) (H:Heap):Mu:={ nx:=μ.nx,loc:=fun id=>if (hget H id).isSome then μ.loc id else none,held:=μ.held }
theorem Mu.cut_some {μ:Mu} {H:Heap} {id:Nat} {x:Nat × Option Nat} (h:(μ.cut H).loc id=some x):μ.loc id=some x:=by
 simp only [Mu.cut] at h;split at h
 ·exact h
 cases h
theorem Evo.cut (w:World) (μ:Mu) (H:Heap):Evo w μ w (μ.cut H) where
 os:=rfl
 tape:=rfl
 output:=rfl
 drawn:=Nat.le_refl _
 size:=Nat.le_refl _
 nx:=Nat.le_refl _
 keep:=fun _ _ _=>rfl
 loc:=fun _ _ _ h _=>Mu.cut_some h
 row:=fun _ _ _ _ _ cur _ h=>⟨cur,h,rfl⟩
 own:=fun id ver _ h _=>⟨id,ver,Mu.cut_some h⟩
 held:=rfl
theorem SR.sub {w:World} {μ:Mu} {H H':Heap} (h:SR w μ H) (hs:∀ id x,hget H' id=some x→hget H id=some x):SR w (μ.cut H') H' where
 ok:=fun id ver b hb=>h.ok id ver b (Mu.cut_some hb)
 has:=fun id ver o ho=>by
  obtain ⟨l,hl,hor⟩:=h.has id ver o (hs id _ ho);exact ⟨l,by simp [Mu.cut,ho,hl],hor.evo (Evo.cut w μ H') h.ok (fun _ _=>rfl) (fun _ _ _ _ _ _ _ _=>rfl)⟩
 only:=fun id x hx=>by
  simp only [Mu.cut] at hx;split at hx
  ·rename_i hi; exact Option.isSome_iff_exists.1 hi
  cases hx
 inj:=fun i j v u b hi hj=>h.inj i j v u b (Mu.cut_some hi) (Mu.cut_some hj)
 held:=fun b hb=>⟨(h.held b hb).1,fun ⟨id,ver,hl⟩=>(h.held b hb).2 ⟨id,ver,Mu.cut_some hl⟩⟩
theorem SRel.weaken {μ:Mu} {s s':AS} {a:Act} {w:World} (h:SRel ro N B μ s a w) (hl:s.le s'):SRel ro N B (μ.cut s'.heap) s' a w where
 size:=h.size
 sr:=h.sr.sub hl.2
 slot:=fun t hv ht=>⟨(h.slot t hv (hl.1 t hv ht)).1,Rep.evo (Evo.cut w μ s'.heap) h.sr.ok hv _ (h.slot t hv (hl.1 t hv ht)).2⟩
 marks:=h.marks.evo (Evo.cut w μ s'.heap)
 ro:=h.ro.evo (Evo.cut w μ s'.heap)
theorem AW.weaken {c:Code} {s':AS} (h:AW P ro N c Q s') (hl:s.le s'):AW P ro N c Q s :=
 fun w0 μ0 μ a w hs hE=>h w0 μ0 (μ.cut s'.heap) a w (hs.weaken hl) (hE.trans (Evo.cut w μ s'.heap))
theorem AW.conseq {c:Code} {Q':Exit→AS→Prop} (h:AW P ro N c Q' s) (hq:∀ e s1,Q' e s1→∃ s2,s1.le s2∧Q e s2):AW P ro N c Q s:=by
 intro w0 μ0 μ a w hs hE;refine wpIn_mono (h w0 μ0 μ a w hs hE) ?_
 rintro e a' w' ⟨h1,h2,μ',s1,h3,h4,h5⟩
 obtain ⟨s2,hl,hq2⟩:=hq e s1 h3;exact ⟨h1,h2,μ'.cut s2.heap,s2,hq2,h4.weaken hl,h5.trans (Evo.cut w' μ' s2.heap)⟩
theorem AS.le_refl (s:AS):s.le s:=⟨fun _ _ h=>h,fun _ _ h=>h⟩
def thenQ (k:AS→Prop) (Q:Exit→AS→Prop):Exit→AS→Prop
 | .normal,s=>k s
 | e,s=>Q e s
def blockQ (id:Nat) (Q:Exit→AS→Prop):Exit→AS→Prop
 | .exit id',s=>if id'=id then Q .normal s else Q (.exit id') s
 | e,s=>Q e s
theorem AW.skip (h:Q .normal s):AW P ro N .skip Q s :=
 fun _ _ μ _ _ hs hE=>wpIn_skip ⟨(fun _ h=>by cases h),(fun h=>by cases h),μ,s,h,hs,hE⟩
theorem AW.exit {id:Nat} (h:Q (.exit id) s):AW P ro N (.exit id) Q s :=
 fun _ _ μ _ _ hs hE=>wpIn_exit ⟨(fun _ h=>by cases h),(fun h=>by cases h),μ,s,h,hs,hE⟩
theorem AW.ret (h:Q .ret s):AW P ro N .ret Q s :=
 fun _ _ μ _ _ hs hE=>wpIn_ret ⟨(fun _ h=>by cases h),(fun h=>by cases h),μ,s,h,hs,hE⟩
theorem AW.seq {x y:Code} (h:AW P ro N x (thenQ (AW P ro N y Q) Q) s):AW P ro N (.seq x y) Q s:=by
 intro w0 μ0 μ a w hs hE;refine wpIn_seq (wpIn_mono (h w0 μ0 μ a w hs hE) ?_)
 rintro e a' w' ⟨h1,h2,μ',s',h3,h4,h5⟩
 cases e with
 | normal=>exact h3 w0 μ0 μ' a' w' h4 h5
 | exit id=>exact ⟨h1,h2,μ',s',h3,h4,h5⟩
 | goto l=>exact ⟨h1,h2,μ',s',h3,h4,h5⟩
 | ret=>exact ⟨h1,h2,μ',s',h3,h4,h5⟩
 | panic ch=>exact absurd rfl (h1 ch)
 | outgrown=>exact absurd rfl h2
theorem AW.block {id:Nat} {c:Code} (h:AW P ro N c (blockQ id Q) s):AW P ro N (.block id c) Q s:=by
 intro w0 μ0 μ a w hs hE;refine wpIn_block (wpIn_mono (h w0 μ0 μ a w hs hE) ?_)
 rintro e a' w' ⟨h1,h2,μ',s',h3,h4,h5⟩
 cases e with
 | normal=>exact ⟨h1,h2,μ',s',h3,h4,h5⟩
 | exit id' =>
  simp only [Exit.inBlock,blockQ] at h3 ⊢;split
  ·rename_i he
   rw [if_pos he] at h3;exact ⟨(fun _ h=>by cases h),(fun h=>by cases h),μ',s',h3,h4,h5⟩
  rename_i he
  rw [if_neg he] at h3;exact ⟨h1,h2,μ',s',h3,h4,h5⟩
 | goto l=>exact ⟨h1,h2,μ',s',h3,h4,h5⟩
 | ret=>exact ⟨h1,h2,μ',s',h3,h4,h5⟩
 | panic ch=>exact absurd rfl (h1 ch)
 | outgrown=>exact absurd rfl h2
def constHV:Value→Option HV
 | .int k n=>if (Lit.int k n).wf then some (.int k n) else none
 | .bool b=>some (.bool b)
 | .string s=>if s.data.toList.length≤1000000 then some (.str s.data.toList) else none
 | v=>some (.v v)
theorem constHV_rep {w:World} {μ:Mu} {v:Value} {hv:HV} (h:constHV v=some hv):Rep w μ hv v:=by
 cases v with
 | int k n =>
  simp only [constHV] at h;split at h
  ·cases h; exact ⟨rfl,by assumption⟩
  cases h
 | bool b=>cases h; rfl
 | string s =>
  simp only [constHV] at h;split at h
  ·rename_i hl
   cases h;exact ⟨rfl,by have:=hl; simp only [maxLen]; omega⟩
  cases h
 | _=>cases h; rfl
def AS.ev (s:AS):Operand→Option HV
 | .tmp t=>sget s.slots t
 | .const v=>constHV v
 | .global g=>some (.v (.pointer (some ⟨g,0,none⟩)))
 | .func f=>some (.fn (.func f) [] [])
theorem SRel.ev {μ:Mu} {a:Act} {w:World} (h:SRel ro N B μ s a w) {x:Operand} {hv:HV} (hx:s.ev x=some hv):Rep w μ hv (a.eval x):=by
 cases x with
 | tmp t=>exact (h.slot t hv hx).2
 | const v=>exact constHV_rep hx
 | global g=>cases hx; rfl
 | func f=>cases hx; exact ⟨[],[],rfl,rfl,rfl⟩
theorem AW.cond {c:Operand} {x y:Code} {t:Bool} (hc:s.ev c=some (.bool t)) (h1:t=true→AW P ro N x Q s) (h2:t=false→AW P ro N y Q s) :
  AW P ro N (.cond c x y) Q s:=by
 intro w0 μ0 μ a w hs hE;have hv:a.eval c=.bool t:=hs.ev hc
 cases t with
 | true=>exact wpIn_cond_true hv (h1 rfl w0 μ0 μ a w hs hE)
 | false=>exact wpIn_cond_false hv (h2 rfl w0 μ0 μ a w hs hE)
theorem least (p:Nat→Prop) (h:∃ n,p n):∃ n,p n∧∀ m,p m→n≤m:=by
 obtain ⟨n,hn⟩:=h
 induction n using Nat.strongRecOn with
 | _ n ih =>
  by_cases hx:∃ m,m<n∧p m
  ·obtain ⟨m,hm,hp⟩:=hx
   exact ih m hm hp
  exact ⟨n,hn,fun m hp=>Nat.le_of_not_lt fun hlt=>hx ⟨m,hlt,hp⟩⟩
open Classical in
theorem AW.loop {c:Code} (I:AS→Prop) (m:AS→Nat) (h0:∃ s0,s.le s0∧I s0)
  (round:∀ s,I s→AW P ro N c (thenQ (fun s'=>∃ s2,s'.le s2∧I s2∧m s2<m s) Q) s):AW P ro N (.loop c) Q s:=by
 obtain ⟨s0,hl0,hI0⟩:=h0;refine AW.weaken ?_ hl0;intro w0 μ0 μ a w hs hE;let R:Act→World→Nat→Prop:=fun a w n=>∃ μ s,I s∧m s=n∧SRel ro N w0.heap.size μ s a w∧Evo w0 μ0 w μ
 let meas:Act→World→Nat:=fun a w=>if h:∃ n,R a w n then Classical.choose (least _ h) else 0
 refine wpIn_loop (fun a w=>∃ n,R a w n) meas ⟨_,μ,s0,hI0,rfl,hs,hE⟩ ?_;intro a w hex
 have hmin:R a w (meas a w):=by
  show R a w (if h:∃ n,R a w n then Classical.choose (least _ h) else 0);rw [dif_pos hex];exact (Classical.choose_spec (least _ hex)).1
 obtain ⟨μ1,s1,hI,hm,hs1,hE1⟩:=hmin;refine wpIn_mono (round s1 hI w0 μ0 μ1 a w hs1 hE1) ?_
 rintro e a' w' ⟨h1,h2,μ',s',h3,h4,h5⟩
 cases e with
 | normal =>
  obtain ⟨s2,hl,hI2,hlt⟩:=h3;have hR:R a' w' (m s2):=⟨_,s2,hI2,rfl,h4.weaken hl,h5.trans (Evo.cut w' μ' s2.heap)⟩;refine ⟨⟨_,hR⟩,?_⟩
  have hle:meas a' w'≤m s2:=by
   show (if h:∃ n,R a' w' n then Classical.choose (least _ h) else 0)≤m s2;rw [dif_pos ⟨_,hR⟩];exact (Classical.choose_spec (least _ ⟨_,hR⟩)).2 _ hR
  omega
 | exit id=>exact ⟨h1,h2,μ',s',h3,h4,h5⟩
 | goto l=>exact ⟨h1,h2,μ',s',h3,h4,h5⟩
 | ret=>exact ⟨h1,h2,μ',s',h3,h4,h5⟩
 | panic ch=>exact absurd rfl (h1 ch)
 | outgrown=>exact absurd rfl h2
open Classical in
theorem AW.loop' {c:Code} (I:Nat→AS→Prop) (h0:∃ n s0,s.le s0∧I n s0)
  (round:∀ n s,I n s→AW P ro N c (thenQ (fun s'=>∃ n',n'<n∧∃ s2,s'.le s2∧I n' s2) Q) s):AW P ro N (.loop c) Q s:=by
 obtain ⟨n,s0,hl,hI⟩:=h0
 let m:AS→Nat:=fun s=>if h:∃ n,I n s then Classical.choose (least _ h) else 0
 have hm:∀ s n,I n s→I (m s) s∧m s≤n:=fun s n h=>by
  have hex:∃ n,I n s:=⟨n,h⟩;have e:m s=Classical.choose (least _ hex):=dif_pos hex;rw [e];exact ⟨(Classical.choose_spec (least _ hex)).1,(Classical.choose_spec (least _ hex)).2 _ h⟩
 refine AW.loop (fun s=>∃ n,I n s) m ⟨s0,hl,n,hI⟩ ?_
 rintro s ⟨n,hn⟩
 refine (round (m s) s (hm s n hn).1).mono ?_
 rintro e s' h
 cases e with
 | normal =>
  obtain ⟨n',hlt,s2,hl2,h2⟩:=h;exact ⟨s2,hl2,⟨n',h2⟩,Nat.lt_of_le_of_lt (hm s2 n' h2).2 hlt⟩
 | exit id=>exact h
 | goto l=>exact h
 | ret=>exact h
 | panic ch=>exact h
 | outgrown=>exact h
end rules
structure TyI where
 desc:TypeDesc
 size:Nat
 bytes:Nat
 zero:Value
def ty (P:Program) (t:TypeId):Option TyI :=
 match P.underlying t,P.info? t with
 | some d,some i=>match i.zero with
  | some z=>some ⟨d,i.size,i.bytes,z⟩
  | none=>none
 | _,_=>none
def aggD:TypeDesc→Bool
 | .struct _ | .array _ _=>true
 | _=>false
section
variable {P:Program} {t:TypeId} {T:TyI}
theorem ty_spec (h:ty P t=some T):P.underlying t=some T.desc∧∃ i,P.info? t=some i∧i.size=T.size∧i.bytes=T.bytes∧i.zero=some T.zero:=by
 unfold ty at h;split at h
 ·rename_i d i hd hi
  split at h
  ·rename_i z hz
   cases h;exact ⟨hd,i,hi,rfl,rfl,hz⟩
  cases h
 cases h
theorem ty_under (h:ty P t=some T) (w:World):(underlying t).run P w=.ok T.desc w:=run_underlying (ty_spec h).1 w
theorem ty_info (h:ty P t=some T) (w:World):∃ i,(typeInfo t).run P w=.ok i w∧i.size=T.size∧i.bytes=T.bytes∧i.zero=some T.zero:=by
 obtain ⟨_,i,hi,h1,h2,h3⟩:=ty_spec h;exact ⟨i,by simp [typeInfo,hi],h1,h2,h3⟩
theorem ty_sizeOf (h:ty P t=some T) (w:World):(sizeOf t).run P w=.ok T.size w:=by
 obtain ⟨i,hi,h1,_⟩:=ty_info h w;simp [sizeOf,hi,h1]
theorem ty_zero (h:ty P t=some T) (w:World):(zeroValue t).run P w=.ok T.zero w:=by
 obtain ⟨i,hi,_,_,h1⟩:=ty_info h w;simp [zeroValue,hi,h1]
theorem ty_isAgg (h:ty P t=some T) (w:World):(isAgg t).run P w=.ok (aggD T.desc) w:=by
 simp only [isAgg,Sem.run_bind,ty_under h,Result.andThen_ok]
 cases T.desc <;> simp [aggD]
end
theorem run_loadCells_seg {P:Program} {w:World} {b base:Nat} {vs:List Value} (h:Seg w b base vs) (off n:Nat) (hn:off+n≤vs.length) :
  (loadCells ⟨b,base+off,none⟩ n).run P w=.ok ((vs.drop off).take n).toArray w:=by
 have hl:((vs.drop off).take n).length=n:=by simp; omega
 have:=run_loadCells_list (P:=P) w ⟨b,base+off,none⟩ ((vs.drop off).take n) (fun j v hj=>by
  rw [Addr.add_lit];have hd:=(h.drop off (by omega)).take n
  exact hd.cell hj)
 rwa [hl] at this
def loadK (T:TyI) (cs:List HV) (off:Nat) (R:HV→Prop):Prop :=
 if aggD T.desc then off+T.size≤cs.length∧R (.agg ((cs.drop off).take T.size))
 else match cs[off]? with
  | some c=>R c
  | none=>False
theorem run_loadVar_seg {P:Program} {w:World} {μ:Mu} {t:TypeId} {T:TyI} (hT:ty P t=some T) {b base:Nat} {vs:List Value} (h:Seg w b base vs) {cs:List HV} (h1:ones cs) (hc:RepL w μ cs vs)
  (off:Nat) {R:HV→Prop} (hk:loadK T cs off R):∃ v hv,(loadVar t ⟨b,base+off,none⟩).run P w=.ok v w∧R hv∧Rep w μ hv v:=by
 unfold loadK at hk;by_cases ha:aggD T.desc
 ·rw [if_pos ha] at hk
  obtain ⟨h3,h2⟩:=hk;refine ⟨.agg ((vs.drop off).take T.size).toArray,_,?_,h2,⟨(h1.drop off).take T.size,_,rfl,(hc.drop off).take T.size⟩⟩;simp [loadVar,ty_isAgg hT,ha,ty_sizeOf hT,run_loadCells_seg h off T.size (by have:=hc.length; omega)]
 rw [if_neg ha] at hk;split at hk
 ·rename_i c hcs
  obtain ⟨x,hx,hr⟩:=hc.get hcs;refine ⟨x,c,?_,hk,hr⟩;simp [loadVar,ty_isAgg hT,ha,h.cell hx]
 exact hk.elim
def abin (op:BinOp) (x y:HV) (R:HV→Prop):Prop :=
 match op,x,y with
 | .add,.int k a,.int k' b=>k=k'∧R (.int k (k.wrap (a+b)))
 | .sub,.int k a,.int k' b=>k=k'∧R (.int k (k.wrap (a - b)))
 | .mul,.int k a,.int k' b=>k=k'∧R (.int k (k.wrap (a*b)))
 | .quo,.int k a,.int k' b=>k=k'∧b≠0∧R (.int k (k.wrap (a.tdiv b)))
 | .rem,.int k a,.int k' b=>k=k'∧b≠0∧R (.int k (a.tmod b))
 | .eql,.int k a,.int k' b=>k=k'∧R (.bool (decide (a=b)))
 | .neq,.int k a,.int k' b=>k=k'∧R (.bool (decide (a≠b)))
 | .lss,.int k a,.int k' b=>k=k'∧R (.bool (decide (a<b)))
 | .leq,.int k a,.int k' b=>k=k'∧R (.bool (decide (a≤b)))
 | .gtr,.int k a,.int k' b=>k=k'∧R (.bool (decide (b<a)))
 | .geq,.int k a,.int k' b=>k=k'∧R (.bool (decide (b≤a)))
 | .add,.str a,.str b=>a.length+b.length≤maxLen∧R (.str (a++b))
 | .eql,.str a,.str b=>R (.bool (decide (a=b)))
 | .neq,.str a,.str b=>R (.bool (decide (a≠b)))
 | .lss,.str a,.str b=>R (.bool (Op.bytesLess a b))
 | .gtr,.str a,.str b=>R (.bool (!(Op.bytesLess a b || decide (a=b))))
 | .leq,.str a,.str b=>R (.bool (Op.bytesLess a b || decide (a=b)))
 | .geq,.str a,.str b=>R (.bool (!(Op.bytesLess a b)))
 | .shl,.int k a,.int _ b=>0≤b∧R (.int k (k.wrap (a*2 ^ min b.toNat k.bits)))
 | .shr,.int k a,.int _ b=>0≤b∧R (.int k (a.fdiv (2 ^ min b.toNat k.bits)))
 | .and,.int k a,.int k' b=>k=k'∧R (.int k (k.wrap (BitVec.ofInt k.bits a &&& BitVec.ofInt k.bits b).toNat))
 | .or,.int k a,.int k' b=>k=k'∧R (.int k (k.wrap (BitVec.ofInt k.bits a ||| BitVec.ofInt k.bits b).toNat))
 | .xor,.int k a,.int k' b=>k=k'∧R (.int k (k.wrap (BitVec.ofInt k.bits a ^^^ BitVec.ofInt k.bits b).toNat))
 | _,_,_=>False
theorem tmod_le {a:Int} (b:Int) (h:0≤a):a.tmod b≤a:=by
 obtain ⟨m,rfl⟩:=Int.eq_ofNat_of_zero_le h
 rcases Int.le_total 0 b with hb | hb
 ·obtain ⟨n,rfl⟩:=Int.eq_ofNat_of_zero_le hb
  rw [← Int.ofNat_tmod];have:=Nat.mod_le m n;omega
 obtain ⟨n,hn⟩:=Int.eq_ofNat_of_zero_le (a := -b) (by omega)
 have hb':b = -(n:Int):=by omega
 rw [hb',Int.tmod_neg,← Int.ofNat_tmod];have:=Nat.mod_le m n;omega
theorem wf_tmod {k:IntKind} {a b:Int} (h:(Lit.int k a).wf=true):(Lit.int k (a.tmod b)).wf=true:=by
 simp only [Lit.wf,Bool.and_eq_true,decide_eq_true_eq] at h ⊢
 have h0:k.min≤0∧0≤k.max:=by cases k <;> simp [IntKind.min,IntKind.max,IntKind.signed,IntKind.bits]
 by_cases ha:0≤a
 ·have h1:=Int.tmod_nonneg b ha
  have h2:=tmod_le b ha;omega
 have h1:(-a).tmod b = -(a.tmod b):=Int.neg_tmod a b;have h2:=Int.tmod_nonneg b (a := -a) (by omega);have h3:=tmod_le (a := -a) b (by omega);omega
theorem wf_fdiv {k:IntKind} {a:Int} (n:Nat) (h:(Lit.int k a).wf=true):(Lit.int k (a.fdiv (2 ^ n))).wf=true:=by
 simp only [Lit.wf,Bool.and_eq_true,decide_eq_true_eq] at h ⊢
 have h0:k.min≤0∧0≤k.max:=by cases k <;> simp [IntKind.min,IntKind.max,IntKind.signed,IntKind.bits]
 have hm:(1:Int)≤2 ^ n:=Int.pow_pos (by omega);generalize (2:Int) ^ n=m at hm;rw [Int.fdiv_eq_ediv_of_nonneg _ (by omega)]
 rcases Int.lt_or_le a 0 with ha | ha
 ·have h1:a / m<0:=Int.ediv_neg_of_neg_of_pos ha (by omega)
  have h2:=Int.mul_ediv_add_emod a m;have h3:=Int.emod_lt_of_pos a (show 0<m by omega);have h4:(m - 1)*(a / m)≤(m - 1)*(-1):=Int.mul_le_mul_of_nonneg_left (by omega) (by omega)
  have h5:(m - 1)*(a / m)=m*(a / m) - a / m:=by rw [Int.sub_mul,Int.one_mul]
  omega
 have h1:=Int.ediv_nonneg ha (show 0≤m by omega);have h2:=Int.ediv_le_self m ha;omega
theorem abin_sound {P:Program} {w:World} {μ:Mu} {op:BinOp} {tx:TypeId} {x y:HV} {u v:Value} {R:HV→Prop} (hx:Rep w μ x u) (hy:Rep w μ y v) (h:abin op x y R) :
  ∃ r hv,(binOp op tx u v).run P w=.ok r w∧R hv∧Rep w μ hv r:=by
 unfold abin at h;split at h
 ·obtain ⟨rfl,h⟩:=h; obtain ⟨rfl, -⟩:=hx; obtain ⟨rfl, -⟩:=hy
  exact ⟨_,_,by simp [binOp,Op.intArith],h,rfl,wf_wrap _ _⟩
 ·obtain ⟨rfl,h⟩:=h; obtain ⟨rfl, -⟩:=hx; obtain ⟨rfl, -⟩:=hy
  exact ⟨_,_,by simp [binOp,Op.intArith],h,rfl,wf_wrap _ _⟩
 ·obtain ⟨rfl,h⟩:=h; obtain ⟨rfl, -⟩:=hx; obtain ⟨rfl, -⟩:=hy
  exact ⟨_,_,by simp [binOp,Op.intArith],h,rfl,wf_wrap _ _⟩
 ·obtain ⟨rfl,h0,h⟩:=h; obtain ⟨rfl, -⟩:=hx; obtain ⟨rfl, -⟩:=hy
  exact ⟨_,_,by simp [binOp,Op.intDiv,h0],h,rfl,wf_wrap _ _⟩
 ·obtain ⟨rfl,h0,h⟩:=h; obtain ⟨rfl,hw⟩:=hx; obtain ⟨rfl, -⟩:=hy
  exact ⟨_,_,by simp [binOp,Op.intDiv,h0],h,rfl,wf_tmod hw⟩
 ·obtain ⟨rfl,h⟩:=h; obtain ⟨rfl, -⟩:=hx; obtain ⟨rfl, -⟩:=hy
  exact ⟨_,_,by simp only [binOp,Op.intCmp,ne_eq,not_true_eq_false,if_false]; rfl,h,congrArg Value.bool (by rw [Bool.eq_iff_iff]; simp)⟩
 ·obtain ⟨rfl,h⟩:=h; obtain ⟨rfl, -⟩:=hx; obtain ⟨rfl, -⟩:=hy
  exact ⟨_,_,by simp only [binOp,Op.intCmp,ne_eq,not_true_eq_false,if_false]; rfl,h,congrArg Value.bool (by rw [Bool.eq_iff_iff]; simp)⟩
 ·obtain ⟨rfl,h⟩:=h; obtain ⟨rfl, -⟩:=hx; obtain ⟨rfl, -⟩:=hy
  exact ⟨_,_,by simp [binOp,Op.intCmp],h,rfl⟩
 ·obtain ⟨rfl,h⟩:=h; obtain ⟨rfl, -⟩:=hx; obtain ⟨rfl, -⟩:=hy
  exact ⟨_,_,by simp [binOp,Op.intCmp],h,rfl⟩
 ·obtain ⟨rfl,h⟩:=h; obtain ⟨rfl, -⟩:=hx; obtain ⟨rfl, -⟩:=hy
  exact ⟨_,_,by simp [binOp,Op.intCmp],h,rfl⟩
 ·obtain ⟨rfl,h⟩:=h; obtain ⟨rfl, -⟩:=hx; obtain ⟨rfl, -⟩:=hy
  exact ⟨_,_,by simp [binOp,Op.intCmp],h,rfl⟩
 ·rename_i a b
  obtain ⟨hl,h⟩:=h; obtain ⟨rfl, -⟩:=hx; obtain ⟨rfl, -⟩:=hy
  have hs:(⟨a.toArray⟩:ByteArray).size+(⟨b.toArray⟩:ByteArray).size≤9223372036854775807:=by
   simp only [maxLen] at hl;show a.toArray.size+b.toArray.size≤_;simp only [List.size_toArray]; omega
  refine ⟨.string (⟨a.toArray⟩++⟨b.toArray⟩),_,?_,h,?_,by simpa using hl⟩
  ·simp only [binOp]; exact run_string_add_sum w _ _ hs
  congr 1
 ·obtain ⟨rfl, -⟩:=hx; obtain ⟨rfl, -⟩:=hy
  exact ⟨_,_,by simp only [binOp,Op.stringOp]; rfl,h,congrArg Value.bool (by rw [Bool.eq_iff_iff]; simp)⟩
 ·obtain ⟨rfl, -⟩:=hx; obtain ⟨rfl, -⟩:=hy
  exact ⟨_,_,by simp only [binOp,Op.stringOp]; rfl,h,congrArg Value.bool (by rw [Bool.eq_iff_iff]; simp)⟩
 ·obtain ⟨rfl, -⟩:=hx; obtain ⟨rfl, -⟩:=hy
  exact ⟨_,_,by simp only [binOp,Op.stringOp]; rfl,h,congrArg Value.bool (by simp)⟩
 ·obtain ⟨rfl, -⟩:=hx; obtain ⟨rfl, -⟩:=hy
  exact ⟨_,_,by simp only [binOp,Op.stringOp]; rfl,h,congrArg Value.bool (by rw [Bool.eq_iff_iff]; simp)⟩
 ·obtain ⟨rfl, -⟩:=hx; obtain ⟨rfl, -⟩:=hy
  exact ⟨_,_,by simp only [binOp,Op.stringOp]; rfl,h,congrArg Value.bool (by rw [Bool.eq_iff_iff]; simp)⟩
 ·obtain ⟨rfl, -⟩:=hx; obtain ⟨rfl, -⟩:=hy
  exact ⟨_,_,by simp only [binOp,Op.stringOp]; rfl,h,congrArg Value.bool (by simp)⟩
 ·obtain ⟨h0,h⟩:=h; obtain ⟨rfl, -⟩:=hx; obtain ⟨rfl, -⟩:=hy
  have hn:=Int.not_lt.2 h0;exact ⟨_,_,by simp [binOp,Op.shift,hn],h,rfl,wf_wrap _ _⟩
 ·obtain ⟨h0,h⟩:=h; obtain ⟨rfl,hw⟩:=hx; obtain ⟨rfl, -⟩:=hy
  have hn:=Int.not_lt.2 h0;exact ⟨_,_,by simp [binOp,Op.shift,hn],h,rfl,wf_fdiv _ hw⟩
 ·obtain ⟨rfl,h⟩:=h; obtain ⟨rfl, -⟩:=hx; obtain ⟨rfl, -⟩:=hy
  exact ⟨_,_,by simp only [binOp,ne_eq,not_true_eq_false,if_false,Op.intBits]; rfl,h,rfl,wf_wrap _ _⟩
 ·obtain ⟨rfl,h⟩:=h; obtain ⟨rfl, -⟩:=hx; obtain ⟨rfl, -⟩:=hy
  exact ⟨_,_,by simp only [binOp,ne_eq,not_true_eq_false,if_false,Op.intBits]; rfl,h,rfl,wf_wrap _ _⟩
 ·obtain ⟨rfl,h⟩:=h; obtain ⟨rfl, -⟩:=hx; obtain ⟨rfl, -⟩:=hy
  exact ⟨_,_,by simp only [binOp,ne_eq,not_true_eq_false,if_false,Op.intBits]; rfl,h,rfl,wf_wrap _ _⟩
 exact h.elim
def hkey (P:Program):Nat→TypeId→List HV→Option (List Lit)
 | 0,_,_=>none
 | d+1,t,cs=>match P.underlying t with
  | some .bool=>match cs with
   | [.bool b]=>some [.bool b]
   | _=>none
  | some (.int q)=>match cs with
   | [.int q' n]=>if q'=q then some [.int q n] else none
   | _=>none
  | some .string=>match cs with
   | [.str l]=>some [.string l]
   | _=>none
  | some (.struct fs)=>if cs.length=P.cellsOf t∧fs.all (·.name != "_")=true then (fs.toList.mapM fun f=>hkey P d f.type ((cs.drop f.offset).take (P.cellsOf f.type))).map List.flatten else none
  | _=>none
theorem mapM_imp {α β:Type} {f g:α→Option β}:∀ {l:List α} {r:List β},(∀ a∈l,∀ b,f a=some b→g a=some b)→l.mapM f=some r→l.mapM g=some r
 | [],r,_,h=>by simpa using h
 | a::l,r,hfg,h=>by
  simp only [List.mapM_cons,Option.pure_def,Option.bind_eq_bind,Option.bind_eq_some_iff] at h ⊢;obtain ⟨c,hc,ds,hd,he⟩:=h;exact ⟨c,hfg a (by simp) c hc,ds,mapM_imp (fun b hb=>hfg b (by simp [hb])) hd,he⟩
theorem hkey_lits {P:Program} {w:World} {μ:Mu}:∀ {d:Nat} {t:TypeId} {cs:List HV} {vs:List Value} {l:List Lit},RepL w μ cs vs→hkey P d t cs=some l→P.keyLits d t vs=some l
 | 0,_,_,_,_,_,h=>by simp [hkey] at h
 | d + 1,t,cs,vs,l,hr,h=>by
  unfold hkey at h;unfold Program.keyLits;split at h
  ·rename_i hu
   split at h
   ·obtain ⟨x,xs,rfl,hx,hxs⟩:=hr
    cases hxs;simp only [Rep] at hx;subst hx;cases h;simp [hu]
   cases h
  ·rename_i q hu
   split at h
   ·obtain ⟨x,xs,rfl,hx,hxs⟩:=hr
    cases hxs;obtain ⟨hx,hw⟩:=hx;subst hx;split at h
    ·rename_i e; subst e
     cases h;simp [hu,hw]
    cases h
   cases h
  ·rename_i hu
   split at h
   ·obtain ⟨x,xs,rfl,hx,hxs⟩:=hr
    cases hxs;obtain ⟨hx,hw⟩:=hx;subst hx;cases h
    have:(⟨(‹List UInt8›).toArray⟩:ByteArray).size≤maxLen:=by show Array.size _≤_; simpa using hw
    simp [hu,this]
   cases h
  ·rename_i fs hu
   split at h
   ·rename_i hc
    simp only [Option.map_eq_some_iff] at h;obtain ⟨als,ha,rfl⟩:=h
    have hl:vs.length=P.cellsOf t:=by rw [hr.length]; exact hc.1
    simp only [hu,hl,hc.2,and_self,if_true];simp only [Option.map_eq_some_iff];exact ⟨als,mapM_imp (fun f _ b hb=>hkey_lits ((hr.drop _).take _) hb) ha,rfl⟩
   cases h
  cases h
def structT (P:Program) (t:TypeId):Bool:=match P.underlying t with
 | some (.struct _)=>true
 | _=>false
def abinT (P:Program) (op:BinOp) (tx:TypeId) (x y:HV) (R:HV→Prop):Prop :=
 match x,y with
 | .bool a,.bool b=>match op,ty P tx with
  | .eql,some ⟨.bool,_,_,_⟩=>R (.bool (a == b))
  | .neq,some ⟨.bool,_,_,_⟩=>R (.bool (!(a == b)))
  | _,_=>False
 | .agg xs,.agg ys=>match hkey P 5 tx xs,hkey P 5 tx ys with
  | some l1,some l2=>(P.eqGuardType P.depth tx=false∧P.keyTypeAt 5 tx=true∧structT P tx=true)∧∃ b:Bool,(b=true↔l1=l2)∧match op with
   | .eql=>R (.bool b)
   | .neq=>R (.bool (!b))
   | _=>False
  | _,_=>False
 | _,_=>abin op x y R
theorem run_equal_agg {P:Program} {w:World} {μ:Mu} {tx:TypeId} {xs ys:List HV} {us vs:List Value} {l1 l2:List Lit} (h1:hkey P 5 tx xs=some l1) (h2:hkey P 5 tx ys=some l2) (hx:RepL w μ xs us) (hy:RepL w μ ys vs)
  (hk:P.keyTypeAt 5 tx=true) (hs:structT P tx=true) {b:Bool} (hb:b=true↔l1=l2):(Op.equal tx (.agg us.toArray) (.agg vs.toArray)).run P w=.ok b w:=by
 have fm:∀ {cs:List HV} {zs:List Value} {l:List Lit},hkey P 5 tx cs=some l→RepL w μ cs zs→(Value.agg zs.toArray).formed P tx=true:=by
  intro cs zs l h hr;unfold structT at hs;split at hs
  ·rename_i fs hu
   unfold hkey at h;simp only [hu] at h;split at h
   ·rename_i hc
    have hl:zs.length=P.cellsOf tx:=by rw [hr.length]; exact hc.1
    simp [Value.formed,hu,hl]
   cases h
  cases hs
 obtain ⟨r,hr,hiff⟩:=run_equalIn_deep (P:=P) 9995 5 tx hk w _ _ (.agg us.toArray) (.agg vs.toArray) l1 l2 (fm h1 hx) (fm h2 hy) (by simpa [Value.cells] using hkey_lits hx h1) (by simpa [Value.cells] using hkey_lits hy h2)
 have:r=b:=by rw [Bool.eq_iff_iff,hiff,hb]
 subst this;exact hr
theorem abinT_sound {P:Program} {w:World} {μ:Mu} {op:BinOp} {tx:TypeId} {x y:HV} {u v:Value} {R:HV→Prop} (hx:Rep w μ x u) (hy:Rep w μ y v) (h:abinT P op tx x y R) :
  ∃ r hv,(binOp op tx u v).run P w=.ok r w∧R hv∧Rep w μ hv r:=by
 unfold abinT at h;split at h
 ·rename_i a b
  have hx':u=.bool a:=hx;have hy':v=.bool b:=hy;subst hx' hy';split at h
  ·rename_i hT
   exact ⟨_,_,by simp [binOp,run_equal_bool w tx a b (ty_spec hT).1],h,rfl⟩
  ·rename_i hT
   exact ⟨_,_,by simp [binOp,run_equal_bool w tx a b (ty_spec hT).1],h,rfl⟩
  exact h.elim
 ·rename_i xs ys
  obtain ⟨_,us,rfl,hxl⟩:=hx;obtain ⟨_,vs,rfl,hyl⟩:=hy;split at h
  ·rename_i l1 l2 h1 h2
   obtain ⟨⟨_,hk,hs⟩,b,hb,h⟩:=h;have he:=run_equal_agg h1 h2 hxl hyl hk hs hb;split at h
   ·exact ⟨_,_,by simp [binOp,he],h,rfl⟩
   ·exact ⟨_,_,by simp [binOp,he],h,rfl⟩
   exact h.elim
  exact h.elim
 exact abin_sound hx hy h
def HV.cells?:HV→Option (List HV)
 | .agg cs=>some cs
 | h=>if h.one then some [h] else none
theorem cells?_rep {w:World} {μ:Mu} {hv:HV} {val:Value} {cs:List HV} (h:hv.cells?=some cs) (hr:Rep w μ hv val):RepL w μ cs val.cells.toList:=by
 have one:hv.one=true→cs=[hv]→RepL w μ cs val.cells.toList:=by
  intro h1 e;subst e;have ho:=hr.oneCell h1;refine ⟨val,[],?_,hr,rfl⟩
  cases val <;> simp_all [Value.oneCell',Value.cells]
 cases hv with
 | agg ds =>
  obtain ⟨_,vs,rfl,hl⟩:=hr;cases h
  simpa [Value.cells] using hl
 | tup ds=>simp [HV.cells?,HV.one] at h
 | v x =>
  simp only [HV.cells?] at h;split at h
  ·cases h; exact one (by assumption) rfl
  cases h
 | _=>simp only [HV.cells?,HV.one,if_true,Option.some.injEq] at h; exact one rfl h.symm
theorem cells?_ones {w:World} {μ:Mu} {hv:HV} {val:Value} {cs:List HV} (h:hv.cells?=some cs) (hr:Rep w μ hv val):ones cs:=by
 cases hv with
 | agg ds=>cases h; exact hr.1
 | tup ds=>simp [HV.cells?,HV.one] at h
 | v x =>
  simp only [HV.cells?] at h;split at h
  ·cases h; exact ones.single (by assumption)
  cases h
 | _=>simp only [HV.cells?,HV.one,if_true,Option.some.injEq] at h; exact h ▸ ones.single rfl
def onesB (cs:List HV):Bool:=cs.all HV.one
theorem ones_of_b {cs:List HV} (h:onesB cs=true):ones cs:=fun c hc=>List.all_eq_true.1 h c hc
def zcells:Value→Option (List HV)
 | .agg cs=>match cs.toList.mapM constHV with
  | some hs=>if onesB hs then some hs else none
  | none=>none
 | .tuple _=>none
 | v=>match constHV v with
  | some h=>if h.one then some [h] else none
  | none=>none
theorem mapM_const {w:World} {μ:Mu}:∀ {vs:List Value} {cs:List HV},vs.mapM constHV=some cs→RepL w μ cs vs
 | [],cs,h=>by simp at h; subst h; rfl
 | v::vs,cs,h=>by
  simp only [List.mapM_cons,Option.pure_def,Option.bind_eq_bind,Option.bind_eq_some_iff] at h;obtain ⟨c,hc,ds,hd,he⟩:=h;cases he;exact ⟨v,vs,rfl,constHV_rep hc,mapM_const hd⟩
theorem zcells_rep {w:World} {μ:Mu} {v:Value} {cs:List HV} (h:zcells v=some cs):RepL w μ cs v.cells.toList:=by
 have go:∀ {u:Value},u.cells = #[u]→(match constHV u with
   | some h=>if h.one then some [h] else none
   | none=>none)=some cs→RepL w μ cs u.cells.toList:=by
  intro u hu h;split at h
  ·rename_i c hc
   split at h
   ·cases h
    rw [hu];exact ⟨u,[],rfl,constHV_rep hc,rfl⟩
   cases h
  cases h
 cases v with
 | agg cs' =>
  simp only [zcells] at h;split at h
  ·rename_i hs hm
   split at h
   ·cases h; exact mapM_const hm
   cases h
  cases h
 | tuple vs=>cases h
 | _=>exact go rfl h
def asl (s:AS) (lo:Option Operand) (d:Int):Option Int :=
 match lo with
 | none=>some d
 | some x=>match s.ev x with
  | some (.int _ n)=>some n
  | _=>none
def elemSize (P:Program) (t:TypeId):Option Nat :=
 match ty P t with
 | some ⟨.slice e,_,_,_⟩=>(ty P e).map (·.size)
 | some ⟨.array _ e,_,_,_⟩=>(ty P e).map (·.size)
 | _=>none
def fieldOf (P:Program) (S:TypeId) (f:Nat):Option (Nat × TyI) :=
 match ty P S with
 | some ⟨.struct fs,_,_,_⟩=>match fs[f]? with
  | some fd=>match ty P fd.type with
   | some T=>if T.size=0 then none else some (fd.offset,T)
   | none=>none
  | none=>none
 | _=>none
def minmax (op:Builtin) (a b:Int):Int:=match op with
 | .min=>min a b
 | _=>max a b
def alive (H:Heap) (id ver:Nat):Prop:=match hget H id with
 | some (v,_)=>v=ver
 | none=>False
def bytesH:List HV→Option (List UInt8)
 | []=>some []
 | .int .u8 n::l=>(bytesH l).map (UInt8.ofNat n.toNat :: ·)
 | _::_=>none
def aval (P:Program) (op:Op) (s:AS) (R:HV→Prop):Prop :=
 match op with
 | .move x | .assign x=>match s.ev x with
  | some h=>R h
  | none=>False
 | .pick c a b=>match s.ev c,s.ev a,s.ev b with
  | some (.bool t),some (.bool x),some (.bool y)=>R (.bool (bif t then x else y))
  | some (.bool true),some h,_=>R h
  | some (.bool false),_,some h=>R h
  | _,_,_=>False
 | .load t a=>match ty P t,s.ev a with
  | some T,some (.fptr cs off)=>loadK T cs off R
  | some T,some (.ptr id ver off)=>match hget s.heap id with
   | some (ver',.arr _ _ cs)=>ver=ver'∧loadK T cs off R
   | _=>False
  | _,_=>False
 | .nilCheck x=>match s.ev x with
  | some (.ptr id ver off)=>match hget s.heap id with
   | some (ver',_)=>ver=ver'∧R (.ptr id ver off)
   | none=>False
  | some (.fptr cs off)=>R (.fptr cs off)
  | _=>False
 | .binOp op tx x y _=>match s.ev x,s.ev y with
  | some h,some g=>abinT P op tx h g R
  | _,_=>False
 | .unOp op _ x=>match op,s.ev x with
  | .not,some (.bool b)=>R (.bool (!b))
  | .neg,some (.int k n)=>R (.int k (k.wrap (0 - n)))
  | _,_=>False
 | .convert src dst x=>match ty P src,ty P dst,s.ev x with
  | some _,some ⟨.int k,_,_,_⟩,some (.int _ n)=>R (.int k (k.wrap n))
  | some _,some ⟨.string,_,_,_⟩,some (.int _ n)=>R (.str (Utf8.encode n).data.toList)
  | some _,some ⟨.string,_,_,_⟩,some (.str l)=>R (.str l)
  | some ⟨.slice e,_,_,_⟩,some ⟨.string,_,_,_⟩,some (.sl k _ cs)=>match ty P e with
   | some ⟨.int .u8,_,_,_⟩=>k=1∧match bytesH cs with
    | some l=>R (.str l)
    | none=>False
   | _=>False
  | some ⟨.slice e,_,_,_⟩,some ⟨.string,_,_,_⟩,some (.v (.slice none 0 0))=>match ty P e with
   | some ⟨.int .u8,_,_,_⟩=>R (.str [])
   | _=>False
  | _,_,_=>False
 | .makeFunc fn first caps=>match first.toList.mapM s.ev,caps.toList.mapM s.ev with
  | some fs,some cs=>R (.fn fn fs cs)
  | _,_=>False
 | .fieldAddr S x f=>match fieldOf P S f,s.ev x with
  | some (o,_),some (.ptr id ver off)=>alive s.heap id ver∧R (.ptr id ver (off+o))
  | some (o,_),some (.fptr cs off)=>R (.fptr cs (off+o))
  | _,_=>False
 | .field S x f=>match fieldOf P S f,s.ev x with
  | some (o,T),some (.agg cs)=>loadK T cs o R
  | _,_=>False
 | .indexAddr t x i=>match ty P t,elemSize P t,s.ev x,s.ev i with
  | some ⟨.slice _,_,_,_⟩,some k',some (.sl k n cs),some (.int _ j)=>k=k'∧0≤j∧j<n∧R (.fptr cs (j.toNat*k))
  | some ⟨.slice _,_,_,_⟩,some k',some (.ar id ver k off n),some (.int _ j)=>k=k'∧0≤j∧j<n∧alive s.heap id ver∧R (.ptr id ver (off+j.toNat*k))
  | some ⟨.array len _,_,_,_⟩,some k',some (.ptr id ver off),some (.int _ j)=>0≤j∧j<len∧alive s.heap id ver∧R (.ptr id ver (off+j.toNat*k'))
  | some ⟨.array len _,_,_,_⟩,some k',some (.fptr cs off),some (.int _ j)=>0≤j∧j<len∧R (.fptr cs (off+j.toNat*k'))
  | _,_,_,_=>False
 | .index t x i=>match ty P t,s.ev x,s.ev i with
  | some ⟨.string,_,_,_⟩,some (.str l),some (.int _ j)=>0≤j∧match l[j.toNat]? with
   | some b=>R (.int .u8 b.toNat)
   | none=>False
  | some ⟨.array len e,_,_,_⟩,some (.agg cs),some (.int _ j)=>0≤j∧j<len∧match ty P e with
   | some T=>loadK T cs (j.toNat*T.size) R
   | none=>False
  | _,_,_=>False
 | .extract x i=>match s.ev x with
  | some (.tup vs)=>match vs[i]? with
   | some h=>R h
   | none=>False
  | _=>False
 | .slice t x lo hi none=>match ty P t,elemSize P t,s.ev x with
  | some ⟨.string,_,_,_⟩,_,some (.str l)=>match asl s lo 0,asl s hi l.length with
   | some a,some b=>0≤a∧a≤b∧b≤l.length∧R (.str ((l.take b.toNat).drop a.toNat))
   | _,_=>False
  | some ⟨.slice _,_,_,_⟩,some k',some (.sl k n cs)=>match asl s lo 0,asl s hi n with
   | some a,some b=>k=k'∧0≤a∧a≤b∧b≤n∧R (.sl k (b.toNat - a.toNat) ((cs.take (b.toNat*k)).drop (a.toNat*k)))
   | _,_=>False
  | some ⟨.slice _,_,_,_⟩,some k',some (.ar id ver k off n)=>match asl s lo 0,asl s hi n with
   | some a,some b=>k=k'∧0≤a∧a≤b∧b≤n∧(a=0∨a<n)∧alive s.heap id ver∧R (.ar id ver k (off+a.toNat*k) (b.toNat - a.toNat))
   | _,_=>False
  | _,_,_=>False
 | .call c=>match c.callee,c.argTypes.toList,c.args.toList with
  | .builtin .len,[t],[x]=>match ty P t,s.ev x with
   | some ⟨.string,_,_,_⟩,some (.str l)=>R (.int .i64 l.length)
   | some ⟨.slice _,_,_,_⟩,some (.sl _ n _)=>R (.int .i64 n)
   | some ⟨.slice _,_,_,_⟩,some (.ar id ver _ _ n)=>alive s.heap id ver∧R (.int .i64 n)
   | some ⟨.slice _,_,_,_⟩,some (.v (.slice none 0 0))=>R (.int .i64 0)
   | some ⟨.map _ _,_,_,_⟩,some (.v (.map none))=>R (.int .i64 0)
   | some ⟨.map _ _,_,_,_⟩,some (.mp id ver)=>match hget s.heap id with
    | some (ver',.map es)=>ver=ver'∧es.length≤maxLen∧R (.int .i64 es.length)
    | _=>False
   | _,_=>False
  | .builtin b,_,[x,y]=>match s.ev x,s.ev y with
   | some (.int k a),some (.int k' c)=>(b=.min∨b=.max)∧k=k'∧R (.int k (minmax b a c))
   | _,_=>False
  | .builtin b,_,[x,y,z]=>match s.ev x,s.ev y,s.ev z with
   | some (.int k a),some (.int k' c),some (.int k'' d)=>(b=.min∨b=.max)∧k=k'∧k=k''∧R (.int k (minmax b (minmax b a c) d))
   | _,_,_=>False
  | .builtin b,_,[x,y,z,u]=>match s.ev x,s.ev y,s.ev z,s.ev u with
   | some (.int k a),some (.int k' c),some (.int k'' d),some (.int k3 f)=>(b=.min∨b=.max)∧k=k'∧k=k''∧k=k3∧R (.int k (minmax b (minmax b (minmax b a c) d) f))
   | _,_,_,_=>False
  | .builtin b,_,[x,y,z,u,v]=>match s.ev x,s.ev y,s.ev z,s.ev u,s.ev v with
   | some (.int k a),some (.int k' c),some (.int k'' d),some (.int k3 f),some (.int k4 g)=>(b=.min∨b=.max)∧k=k'∧k=k''∧k=k3∧k=k4∧R (.int k (minmax b (minmax b (minmax b (minmax b a c) d) f) g))
   | _,_,_,_,_=>False
  | _,_,_=>False
 | _=>False
section
variable {P:Program} {ro:Option Nat} {N B:Nat} {s:AS} {μ:Mu} {a:Act} {w:World}
theorem mapM_ev (hs:SRel ro N B μ s a w):∀ {xs:List Operand} {hs':List HV},xs.mapM s.ev=some hs'→RepL w μ hs' (xs.map a.eval)
 | [],l,h=>by simp at h; subst h; rfl
 | x::xs,l,h=>by
  simp only [List.mapM_cons,Option.pure_def,Option.bind_eq_bind,Option.bind_eq_some_iff] at h;obtain ⟨c,hc,ds,hd,he⟩:=h;cases he;exact ⟨a.eval x,xs.map a.eval,rfl,hs.ev hc,mapM_ev hs hd⟩
theorem OR.seg {e:TypeId} {k:Nat} {cs:List HV} {b:Nat} (h:OR w μ (.arr k e cs) (some b)):ones cs∧∃ vs,Seg w b 0 vs∧RepL w μ cs vs:=by
 obtain ⟨h0,cur,vs,rest,⟨lo,hi,h1,_⟩,h2,h3⟩:=h;exact ⟨h0,vs,⟨cur,e,(lo,hi),[],rest,h1,by simpa using h2,rfl⟩,h3⟩
theorem SRel.live {id ver off:Nat} {v:Value} (hs:SRel ro N B μ s a w) (hr:Rep w μ (.ptr id ver off) v) {o:AObj} (hg:hget s.heap id=some (ver,o)) :
  ∃ b,μ.loc id=some (ver,some b)∧v=.pointer (some ⟨b,off,none⟩)∧OR w μ o (some b):=by
 obtain ⟨l,hl,hor⟩:=hs.sr.has id ver _ hg
 rcases hr with ⟨b,hb,rfl⟩ | ⟨hd,_⟩
 ·rw [hl] at hb
  cases hb;exact ⟨b,hl,rfl,hor⟩
 exact absurd hl (hd.2 l)
theorem SRel.notDead {id ver:Nat} (hs:SRel ro N B μ s a w) (h:alive s.heap id ver):¬ μ.dead id ver:=by
 unfold alive at h;split at h
 ·rename_i v o hg
  subst h;obtain ⟨l,hl,_⟩:=hs.sr.has id _ _ hg;exact fun hd=>hd.2 l hl
 exact h.elim
theorem elemSize_slice {t e:TypeId} {k:Nat} {T:TyI} (hT:ty P t=some T) (hd:T.desc=.slice e) (h:elemSize P t=some k) (w:World):(sizeOf e).run P w=.ok k w:=by
 unfold elemSize at h;rw [hT] at h;obtain ⟨d,sz,by',z⟩:=T;simp only at hd;subst hd;simp only [Option.map_eq_some_iff] at h;obtain ⟨T',hT',rfl⟩:=h;exact ty_sizeOf hT' w
theorem elemSize_array {t e:TypeId} {len k:Nat} {T:TyI} (hT:ty P t=some T) (hd:T.desc=.array len e) (h:elemSize P t=some k) (w:World):(sizeOf e).run P w=.ok k w:=by
 unfold elemSize at h;rw [hT] at h;obtain ⟨d,sz,by',z⟩:=T;simp only at hd;subst hd;simp only [Option.map_eq_some_iff] at h;obtain ⟨T',hT',rfl⟩:=h;exact ty_sizeOf hT' w
theorem fieldOf_spec {S:TypeId} {f o:Nat} {T:TyI} (h:fieldOf P S f=some (o,T)) :
  ∃ fs fd,(∀ w,(underlying S).run P w=.ok (.struct fs) w)∧fs[f]?=some fd∧fd.offset=o∧ty P fd.type=some T∧T.size≠0:=by
 unfold fieldOf at h;split at h
 ·rename_i fs sz by' z hT
  split at h
  ·rename_i fd hfd
   split at h
   ·rename_i T' hT'
    split at h
    ·cases h
    rename_i h0
    cases h;exact ⟨fs,fd,fun w=>ty_under hT w,hfd,rfl,hT',h0⟩
   cases h
  cases h
 cases h
theorem loadK_part {cs:List HV} {vs:List Value} (h1:ones cs) (hc:RepL w μ cs vs) {t:TypeId} {T:TyI} (hT:ty P t=some T) {off:Nat} {R:HV→Prop} (hk:loadK T cs off R) :
  ∃ v hv,(part t vs.toArray off).run P w=.ok v w∧R hv∧Rep w μ hv v:=by
 unfold loadK at hk;by_cases ha:aggD T.desc
 ·rw [if_pos ha] at hk
  refine ⟨.agg ((vs.drop off).take T.size).toArray,_,?_,hk.2,(h1.drop off).take T.size,_,rfl,(hc.drop off).take T.size⟩;simp [part,ty_isAgg hT,ha,ty_sizeOf hT,List.take_drop]
 rw [if_neg ha] at hk;split at hk
 ·rename_i c hcs
  obtain ⟨x,hx,hr⟩:=hc.get hcs;refine ⟨x,c,?_,hk,hr⟩;simp [part,ty_isAgg hT,ha,hx]
 exact hk.elim
theorem asl_spec {lo:Option Operand} {d x:Int} (hs:SRel ro N B μ s a w) (h:asl s lo d=some x) :
  (lo=none∧x=d)∨∃ o k,lo=some o∧a.eval o=.int k x:=by
 unfold asl at h;split at h
 ·cases h; exact .inl ⟨rfl,rfl⟩
 rename_i o
 split at h
 ·rename_i k n hn
  cases h;exact .inr ⟨o,k,rfl,(hs.ev hn).1⟩
 cases h
theorem run_bounds (hs:SRel ro N B μ s a w) {lo hi:Option Operand} {p q:Int} (bs:Bool) (len cap:Nat) (hp:asl s lo 0=some p) (hq:asl s hi len=some q) (h0:0≤p) (h1:p≤q) (h2:q≤cap) :
  (Instr.sliceBounds bs len cap (lo.map a.eval) (hi.map a.eval) none).run P w=.ok (p.toNat,q.toNat,cap) w:=by
 have h3:0≤q:=by omega
 have h4:p≤(q.toNat:Int):=by omega
 rcases asl_spec hs hp with ⟨rfl,rfl⟩ | ⟨o1,k1,rfl,e1⟩
 ·rcases asl_spec hs hq with ⟨rfl,rfl⟩ | ⟨o2,k2,rfl,e2⟩
  ·simp [Instr.sliceBounds]
  simp [Instr.sliceBounds,Instr.sliceBound,asIntOf,e2,h2,h3]
 rcases asl_spec hs hq with ⟨rfl,rfl⟩ | ⟨o2,k2,rfl,e2⟩
 ·simp [Instr.sliceBounds,Instr.sliceBound,asIntOf,e1,h0,h1]
 have h4':p≤max q 0:=by omega
 simp [Instr.sliceBounds,Instr.sliceBound,asIntOf,e1,e2,h0,h2,h3,h4']
theorem abin_guard {op:BinOp} {tx:TypeId} {x y:HV} {u v:Value} {R:HV→Prop} (hx:Rep w μ x u) (hy:Rep w μ y v) (h:abin op x y R) (X Y:Operand) :
  (eqGuard op tx X Y u v).run P w=.ok () w:=by
 have key:(∃ k n,u=.int k n)∨∃ z,u=.string z:=by
  unfold abin at h;split at h
  all_goals first
   | exact h.elim
   | exact .inl ⟨_,_,hx.1⟩
   | exact .inr ⟨_,hx.1⟩
 unfold eqGuard
 rcases key with ⟨k,n,rfl⟩ | ⟨z,rfl⟩
 ·split <;> simp
 split <;> simp
theorem abinT_guard {op:BinOp} {tx:TypeId} {x y:HV} {u v:Value} {R:HV→Prop} (hx:Rep w μ x u) (hy:Rep w μ y v) (h:abinT P op tx x y R) (X Y:Operand) :
  (eqGuard op tx X Y u v).run P w=.ok () w:=by
 unfold abinT at h;split at h
 ·have hx':u=.bool _:=hx
  subst hx';unfold eqGuard
  split <;> simp
 ·obtain ⟨_,us,rfl,hxl⟩:=hx
  obtain ⟨_,vs,rfl,hyl⟩:=hy;split at h
  ·obtain ⟨⟨hg,_,_⟩,_,_,h⟩:=h
   split at h
   ·unfold eqGuard
    simp;intro hh;rw [hg] at hh;cases hh
   ·unfold eqGuard
    simp;intro hh;rw [hg] at hh;cases hh
   exact h.elim
  exact h.elim
 exact abin_guard hx hy h X Y
theorem wf_len {n:Nat} (h:n≤maxLen):(Lit.int .i64 (n:Int)).wf=true:=by
 simp only [maxLen] at h;exact WalkArith.wf_i64 (by omega)
theorem wf_minmax {b:Builtin} {k:IntKind} {p q:Int} (h1:(Lit.int k p).wf=true) (h2:(Lit.int k q).wf=true):(Lit.int k (minmax b p q)).wf=true:=by
 unfold minmax;split
 ·rw [Int.min_def]; split <;> assumption
 rw [Int.max_def]; split <;> assumption
theorem bytesH_rep:∀ {cs:List HV} {l:List UInt8} {vs:List Value},bytesH cs=some l→RepL w μ cs vs→∃ ns:List Int,vs=ns.map (Value.int .u8)∧l=ns.map (fun n=>UInt8.ofNat n.toNat)
 | [],l,vs,h,hr=>by cases h; cases hr; exact ⟨[],rfl,rfl⟩
 | c::cs,l,vs,h,hr=>by
  obtain ⟨x,xs,rfl,hx,hxs⟩:=hr;unfold bytesH at h;split at h
  ·rename_i e; cases e
  ·rename_i n l' e
   cases e;simp only [Option.map_eq_some_iff] at h;obtain ⟨m,hm,rfl⟩:=h;obtain ⟨ns,rfl,rfl⟩:=bytesH_rep hm hxs;obtain ⟨rfl,_⟩:=hx;exact ⟨n::ns,rfl,rfl⟩
  cases h
theorem foldl_pushB:∀ (ns:List Int) (b:ByteArray),ns.foldl (fun r n=>r.push (UInt8.ofNat n.toNat)) b=⟨b.data++(ns.map (fun n=>UInt8.ofNat n.toNat)).toArray⟩
 | [],b=>by simp
 | n::ns,b=>by
  rw [List.foldl_cons,foldl_pushB ns];simp [ByteArray.push]
theorem aval_sound (hs:SRel ro N B μ s a w) (o:Oper) {R:HV→Prop} (h:aval P o.op s R) :
  ∃ v hv,(execOp a.eval o).run P w=.ok (.value v) w∧R hv∧Rep w μ hv v:=by
 unfold aval at h;split at h
 ·-- move
  rename_i x hop
  split at h
  ·rename_i hv hx
   exact ⟨a.eval x,hv,by simp [execOp,hop],h,hs.ev hx⟩
  exact h.elim
 ·rename_i x hop
  split at h
  ·rename_i hv hx
   exact ⟨a.eval x,hv,by simp [execOp,hop],h,hs.ev hx⟩
  exact h.elim
 ·-- pick
  rename_i c x y hop
  split at h
  ·rename_i t p q hc hx hy
   have h1:=hs.ev hc; have h2:=hs.ev hx; have h3:=hs.ev hy;simp only [Rep] at h1 h2 h3;refine ⟨.bool (bif t then p else q),_,?_,h,rfl⟩
   cases t <;> simp [execOp,hop,h1,h2,h3,asBool]
  ·rename_i hv hc hx _
   have h1:=hs.ev hc;simp only [Rep] at h1;exact ⟨a.eval x,hv,by simp [execOp,hop,h1,asBool],h,hs.ev hx⟩
  ·rename_i hv hc hy _
   have h1:=hs.ev hc;simp only [Rep] at h1;exact ⟨a.eval y,hv,by simp [execOp,hop,h1,asBool],h,hs.ev hy⟩
  exact h.elim
 ·-- load
  rename_i t x hop
  split at h
  ·rename_i T cs off hT hx
   obtain ⟨h0,b,base,vs,he,_,hsg,hl⟩:=hs.ev hx;obtain ⟨v,hv,h1,h2,h3⟩:=run_loadVar_seg hT hsg h0 hl off h;exact ⟨v,hv,by simp [execOp,hop,he,Instr.loadAt,Instr.sureAddr,h1],h2,h3⟩
  ·rename_i T id ver off hT hx
   split at h
   ·rename_i ver' k e cs hg
    obtain ⟨rfl,h⟩:=h;obtain ⟨b,hl,he,hor⟩:=hs.live (hs.ev hx) hg;obtain ⟨h0,vs,hsg,hcl⟩:=hor.seg;obtain ⟨v,hv,h1,h2,h3⟩:=run_loadVar_seg hT hsg h0 hcl off h;rw [Nat.zero_add] at h1;exact ⟨v,hv,by simp [execOp,hop,he,Instr.loadAt,Instr.sureAddr,h1],h2,h3⟩
   exact h.elim
  exact h.elim
 ·-- nilCheck
  rename_i x hop
  split at h
  ·rename_i id ver off hx
   have hr:=hs.ev hx;split at h
   ·rename_i ver' o' hg
    obtain ⟨rfl,h⟩:=h;obtain ⟨b,hl,he,_⟩:=hs.live hr hg;exact ⟨a.eval x,_,by simp [execOp,hop,he],h,hr⟩
   exact h.elim
  ·rename_i cs off hx
   have hr:=hs.ev hx;obtain ⟨_,b,base,vs,he,_⟩:=hr;exact ⟨a.eval x,_,by simp [execOp,hop,he],h,hs.ev hx⟩
  exact h.elim
 ·-- binOp
  rename_i op tx x y ty' hop
  split at h
  ·rename_i p q hx hy
   obtain ⟨r,hv,h1,h2,h3⟩:=abinT_sound (P:=P) (tx:=tx) (hs.ev hx) (hs.ev hy) h;exact ⟨r,hv,by simp [execOp,hop,abinT_guard (hs.ev hx) (hs.ev hy) h,h1],h2,h3⟩
  exact h.elim
 ·-- unOp
  rename_i op tx x hop
  split at h
  ·rename_i b hx
   have h1:=hs.ev hx;simp only [Rep] at h1;exact ⟨.bool (!b),_,by simp [execOp,hop,h1,Op.unary],h,rfl⟩
  ·rename_i k n hx
   obtain ⟨h1,_⟩:=hs.ev hx;exact ⟨.int k (k.wrap (0 - n)),_,by simp [execOp,hop,h1,Op.unary,Op.intArith],h,rfl,wf_wrap _ _⟩
  exact h.elim
 ·-- convert
  rename_i src dst x hop
  split at h
  ·rename_i T k sz by' z k' n hT hU hx
   obtain ⟨h1,_⟩:=hs.ev hx;have hu:=ty_under hU;exact ⟨.int k (k.wrap n),_,by simp [execOp,hop,h1,convert,ty_under hT,hu,Conv.intToInt],h,rfl,wf_wrap _ _⟩
  ·rename_i T sz by' z k' n hT hU hx
   obtain ⟨h1,_⟩:=hs.ev hx;have hu:=ty_under hU;refine ⟨.string (Utf8.encode n),_,by simp [execOp,hop,h1,convert,ty_under hT,hu,Conv.intToString],h,by simp,?_⟩;have:=encode_size_le n;simp only [ByteArray.size,← Array.length_toList] at this;simp only [maxLen]; omega
  ·rename_i T sz by' z l hT hU hx
   have hr:=hs.ev hx;obtain ⟨h1,_⟩:=hr;have hu:=ty_under hU;exact ⟨a.eval x,_,by simp [execOp,hop,h1,convert,ty_under hT,hu],h,hs.ev hx⟩
  ·rename_i e sz by' z sz2 by2 z2 k n cs hT hU hx
   split at h
   ·rename_i sz3 by3 z3 hE
    obtain ⟨rfl,h⟩:=h;split at h
    ·rename_i l hl
     have hrep:=hs.ev hx;obtain ⟨_,hcl,hn,hv⟩:=hrep
     rcases hv with ⟨rfl,a0,he⟩ | ⟨b,off,cap,vs,he,hcap,ho,hsg,hrl⟩
     ·have:cs=[]:=by simpa using hcl
      subst this;cases hl;refine ⟨.string ByteArray.empty,_,?_,h,rfl,by simp⟩
      cases a0 <;> simp [execOp,hop,he,run_convert_bytes_string w src dst e _ 0 0 (ty_spec hT).1 (ty_spec hE).1 (ty_spec hU).1,Conv.bytesToString,loadCells,loadCellsFrom]
     obtain ⟨ns,rfl,rfl⟩:=bytesH_rep hl hrl
     have hlen:ns.length=n:=by have:=hrl.length; simp at this; omega
     have hld:=run_loadCells_seg (P:=P) hsg 0 n (by simp [hlen]);rw [Nat.add_zero,List.drop_zero,List.take_of_length_le (by simp [hlen])] at hld;refine ⟨.string ⟨(ns.map (fun n=>UInt8.ofNat n.toNat)).toArray⟩,_,?_,h,rfl,by simp [hlen,hn]⟩;simp [execOp,hop,he,run_convert_bytes_string w src dst e _ n cap (ty_spec hT).1 (ty_spec hE).1 (ty_spec hU).1,run_bytesToString w ⟨b,off,none⟩ n cap ns hld,foldl_pushB]
    exact h.elim
   exact h.elim
  ·rename_i e sz by' z sz2 by2 z2 hT hU hx
   have he:=hs.ev hx;simp only [Rep] at he;split at h
   ·rename_i sz3 by3 z3 hE
    refine ⟨.string ByteArray.empty,_,?_,h,rfl,by simp⟩;simp [execOp,hop,he,run_convert_bytes_string w src dst e none 0 0 (ty_spec hT).1 (ty_spec hE).1 (ty_spec hU).1,Conv.bytesToString]
   exact h.elim
  exact h.elim
 ·-- makeFunc
  rename_i fn first caps hop
  split at h
  ·rename_i fs cs hf hc
   refine ⟨.func fn (first.map a.eval) (caps.map a.eval),_,by simp [execOp,hop,Instr.makeFunc],h,?_⟩;refine ⟨first.toList.map a.eval,caps.toList.map a.eval,?_,mapM_ev hs hf,mapM_ev hs hc⟩
   congr 1
   ·apply Array.toList_inj.1; simp
   apply Array.toList_inj.1; simp
  exact h.elim
 ·-- fieldAddr
  rename_i S x f hop
  split at h
  ·rename_i o' T id ver off hf hx
   obtain ⟨fs,fd,hu,hfd,rfl,hT,h0⟩:=fieldOf_spec hf;obtain ⟨hlive,h⟩:=h
   rcases hs.ev hx with ⟨b,hl,he⟩ | ⟨hd,ad,he⟩
   ·refine ⟨.pointer (some ⟨b,off+fd.offset,none⟩),_,?_,h,.inl ⟨b,hl,rfl⟩⟩
    simp [execOp,hop,he,Instr.fieldAt,Instr.sureAddr,hu,hfd,fieldPlace,ty_sizeOf hT,h0,Addr.add_lit]
   exact absurd hd (hs.notDead hlive)
  ·rename_i o' T cs off hf hx
   obtain ⟨fs,fd,hu,hfd,rfl,hT,h0⟩:=fieldOf_spec hf;obtain ⟨h9,b,base,vs,he,ho,hsg,hl⟩:=hs.ev hx;refine ⟨.pointer (some ⟨b,base+(off+fd.offset),none⟩),_,?_,h,h9,b,base,vs,rfl,ho,hsg,hl⟩;simp [execOp,hop,he,Instr.fieldAt,Instr.sureAddr,hu,hfd,fieldPlace,ty_sizeOf hT,h0,Addr.add_lit,Nat.add_assoc]
  exact h.elim
 ·-- field
  rename_i S x f hop
  split at h
  ·rename_i o' T cs hf hx
   obtain ⟨fs,fd,hu,hfd,rfl,hT,h0⟩:=fieldOf_spec hf;obtain ⟨h9,vs,he,hl⟩:=hs.ev hx;obtain ⟨v,hv,h1,h2,h3⟩:=loadK_part h9 hl hT h;exact ⟨v,hv,by simp [execOp,hop,he,Instr.field,hu,hfd,asAgg,h1],h2,h3⟩
  exact h.elim
 ·-- indexAddr
  rename_i t x i hop
  split at h
  ·rename_i e sz by' z k' k n cs ki j hT hk hx hi
   obtain ⟨rfl,h0,h1,h⟩:=h;obtain ⟨hi',_⟩:=hs.ev hi;obtain ⟨h9,hcl,_,⟨hn0,_⟩ | ⟨b,off,cap,vs,he,hcap,ho,hsg,hl⟩⟩:=hs.ev hx
   ·omega
   have hu:=ty_under hT;have hz:=elemSize_slice hT rfl hk w;refine ⟨.pointer (some ⟨b,off+j.toNat*k,none⟩),_,?_,h,h9,b,off,vs,rfl,ho,hsg,hl⟩;simp [execOp,hop,he,hi',Instr.indexAt,asIntOf,hu,h0,h1,hz,Addr.add_lit]
  ·rename_i e sz by' z k' id ver k off n ki j hT hk hx hi
   obtain ⟨rfl,h0,h1,hlive,h⟩:=h;obtain ⟨hi',_⟩:=hs.ev hi;have hu:=ty_under hT;have hz:=elemSize_slice hT rfl hk w
   rcases hs.ev hx with ⟨l,hl,⟨_,_,hn,_⟩ | ⟨b,cap,cur,e',rfl,he,hnc,hcm,hrow,hsz⟩⟩ | ⟨hd,ad,m,c,he⟩
   ·omega
   ·refine ⟨.pointer (some ⟨b,off+j.toNat*k,none⟩),_,?_,h,.inl ⟨b,hl,rfl⟩⟩
    simp [execOp,hop,he,hi',Instr.indexAt,asIntOf,hu,h0,h1,hz,Addr.add_lit]
   exact absurd hd (hs.notDead hlive)
  ·rename_i len e sz by' z k' id ver off ki j hT hk hx hi
   obtain ⟨h0,h1,hlive,h⟩:=h;obtain ⟨hi',_⟩:=hs.ev hi;have hu:=ty_under hT;have hz:=elemSize_array hT rfl hk w
   rcases hs.ev hx with ⟨b,hl,he⟩ | ⟨hd,ad,he⟩
   ·refine ⟨.pointer (some ⟨b,off+j.toNat*k',none⟩),_,?_,h,.inl ⟨b,hl,rfl⟩⟩
    simp [execOp,hop,he,hi',Instr.indexAt,Instr.sureAddr,asIntOf,hu,h0,h1,hz,Addr.add_lit]
   exact absurd hd (hs.notDead hlive)
  ·rename_i len e sz by' z k' cs off ki j hT hk hx hi
   obtain ⟨h0,h1,h⟩:=h;obtain ⟨hi',_⟩:=hs.ev hi;have hu:=ty_under hT;have hz:=elemSize_array hT rfl hk w;obtain ⟨h9,b,base,vs,he,ho,hsg,hl⟩:=hs.ev hx;refine ⟨.pointer (some ⟨b,base+(off+j.toNat*k'),none⟩),_,?_,h,h9,b,base,vs,rfl,ho,hsg,hl⟩;simp [execOp,hop,he,hi',Instr.indexAt,Instr.sureAddr,asIntOf,hu,h0,h1,hz,Addr.add_lit,Nat.add_assoc]
  exact h.elim
 ·-- index
  rename_i t x i hop
  split at h
  ·rename_i sz by' z l ki j hT hx hi
   obtain ⟨h0,h⟩:=h;obtain ⟨hi',_⟩:=hs.ev hi;obtain ⟨he,_⟩:=hs.ev hx;have hu:=ty_under hT;split at h
   ·rename_i b hb
    refine ⟨.int .u8 b.toNat,_,?_,h,rfl,?_⟩
    ·have hb':(⟨l.toArray⟩:ByteArray)[j.toNat]?=some b:=by
      obtain ⟨hlt,hb1⟩:=List.getElem?_eq_some_iff.1 hb
      have hsz:j.toNat<(⟨l.toArray⟩:ByteArray).size:=by show _<l.toArray.size; simpa using hlt
      rw [getElem?_pos (⟨l.toArray⟩:ByteArray) j.toNat hsz,← hb1];rfl
     simp [execOp,hop,he,hi',Instr.index,asIntOf,hu,h0,hb']
    have:=b.toNat_lt;simp [Lit.wf,IntKind.min,IntKind.max,IntKind.signed,IntKind.bits];omega
   exact h.elim
  ·rename_i len e sz by' z cs ki j hT hx hi
   obtain ⟨h0,h1,h⟩:=h;obtain ⟨hi',_⟩:=hs.ev hi;obtain ⟨h9,vs,he,hl⟩:=hs.ev hx;have hu:=ty_under hT;split at h
   ·rename_i T' hT'
    obtain ⟨v,hv,h2,h3,h4⟩:=loadK_part h9 hl hT' h;exact ⟨v,hv,by simp [execOp,hop,he,hi',Instr.index,asIntOf,hu,h0,h1,ty_sizeOf hT',h2],h3,h4⟩
   exact h.elim
  exact h.elim
 ·-- extract
  rename_i x i hop
  split at h
  ·rename_i vs hx
   obtain ⟨us,he,hl⟩:=hs.ev hx;split at h
   ·rename_i hv hi
    obtain ⟨u,hu,hr⟩:=hl.get hi;exact ⟨u,hv,by simp [execOp,hop,he,Instr.extract,hu],h,hr⟩
   exact h.elim
  exact h.elim
 ·-- slice
  rename_i t x lo hi hop
  split at h
  ·rename_i sz by' z xo l hT hx
   split at h
   ·rename_i p q hp hq
    obtain ⟨h0,h1,h2,h⟩:=h;obtain ⟨he,hlen⟩:=hs.ev hx;have hu:=ty_under hT
    have hsz:(⟨l.toArray⟩:ByteArray).size=l.length:=by show l.toArray.size=_; simp
    have hb:=run_bounds (P:=P) hs false l.length l.length hp hq h0 h1 h2;refine ⟨.string ((⟨l.toArray⟩:ByteArray).extract p.toNat q.toNat),_,?_,h,?_,by simp; omega⟩
    ·simp [execOp,hop,Instr.sliceAt,Instr.slice,he,hu,hsz,hb]
    congr 1
    apply WideShapes.bytes_inj;simp only [ByteArray.data_extract,List.extract_toArray,List.toList_toArray];rw [List.extract_eq_take_drop,List.drop_take]
   exact h.elim
  ·rename_i e sz by' z k' k n cs hT hk hx
   split at h
   ·rename_i p q hp hq
    obtain ⟨rfl,h0,h1,h2,h⟩:=h;have hu:=ty_under hT;have hz:=elemSize_slice hT rfl hk w;obtain ⟨h9,hcl,hm,⟨hn0,a0,he⟩ | ⟨b,off,cap,vs,he,hcap,ho,hsg,hl⟩⟩:=hs.ev hx
    ·subst hn0
     have hb:=run_bounds (P:=P) hs true 0 0 hp hq h0 h1 h2
     have hp0:p.toNat=0:=by omega
     have hq0:q.toNat=0:=by omega
     refine ⟨.slice a0 0 0,_,?_,h,(h9.take _).drop _,?_,?_,?_⟩
     ·simp [execOp,hop,Instr.sliceAt,Instr.slice,he,hu,hb,hz,hp0,hq0]
     ·simp [hp0,hq0]
     ·omega
     left; exact ⟨by omega,a0,rfl⟩
    have hb:=run_bounds (P:=P) hs true n cap hp hq h0 h1 (by omega)
    have hpn:p.toNat≤q.toNat:=by omega
    have hqn:q.toNat≤n:=by omega
    have hmul:p.toNat*k≤q.toNat*k:=Nat.mul_le_mul_right _ hpn;have hmul2:q.toNat*k≤n*k:=Nat.mul_le_mul_right _ hqn;have hvl:=hl.length
    have hlen:((cs.take (q.toNat*k)).drop (p.toNat*k)).length=(q.toNat - p.toNat)*k:=by
     rw [List.length_drop,List.length_take,Nat.sub_mul]; omega
    by_cases hpc:cap=p.toNat
    ·have hb:=hpc ▸ hb
     refine ⟨.slice (some ⟨b,off,none⟩) (q.toNat - p.toNat) (cap - p.toNat),_,?_,h,(h9.take _).drop _,hlen,by omega,.inr ⟨b,off,_,[],rfl,by omega,ho,?_,?_⟩⟩
     ·simp [execOp,hop,Instr.sliceAt,Instr.slice,he,hu,hb,hz,hpc]
     ·have:=hsg.take 0; simpa using this
     have h8:q.toNat - p.toNat=0:=by omega
     rw [h8,Nat.zero_mul] at hlen;rw [List.eq_nil_of_length_eq_zero hlen]; rfl
    refine ⟨.slice (some ⟨b,off+p.toNat*k,none⟩) (q.toNat - p.toNat) (cap - p.toNat),_,?_,h,(h9.take _).drop _,hlen,by omega,.inr ⟨b,off+p.toNat*k,_,(vs.take (q.toNat*k)).drop (p.toNat*k),rfl,by omega,ho,?_,?_⟩⟩
    ·simp [execOp,hop,Instr.sliceAt,Instr.slice,he,hu,hb,hz,hpc,Addr.add_lit]
    ·exact (hsg.take (q.toNat*k)).drop (p.toNat*k) (by rw [List.length_take]; omega)
    exact (hl.take _).drop _
   exact h.elim
  ·rename_i e sz by' z k' id ver k off n hT hk hx
   split at h
   ·rename_i p q hp hq
    obtain ⟨rfl,h0,h1,h2,h3,hlive,h⟩:=h;have hu:=ty_under hT;have hz:=elemSize_slice hT rfl hk w
    rcases hs.ev hx with ⟨l,hl,⟨rfl,he,hn,hoff⟩ | ⟨b,cap,cur,e',rfl,he,hnc,hcm,hrow,hsz⟩⟩ | ⟨hd,_⟩
    ·subst hn hoff
     have hb:=run_bounds (P:=P) hs true 0 0 hp hq h0 h1 h2
     have hp0:p.toNat=0:=by omega
     have hq0:q.toNat=0:=by omega
     refine ⟨.slice none 0 0,_,?_,h,.inl ⟨none,hl,.inl ⟨rfl,rfl,by omega,by simp [hp0]⟩⟩⟩;simp [execOp,hop,Instr.sliceAt,Instr.slice,he,hu,hb,hz,hp0,hq0]
    ·have hb:=run_bounds (P:=P) hs true n cap hp hq h0 h1 (by omega)
     have hpn:p.toNat≤q.toNat:=by omega
     have hqn:q.toNat≤n:=by omega
     have hpcap:p.toNat≤cap:=by omega
     by_cases hpc:cap=p.toNat
     ·have hp0:p.toNat=0:=by omega
      have hc0:cap=0:=by omega
      subst hc0;refine ⟨.slice (some ⟨b,off,none⟩) (q.toNat - p.toNat) (0 - p.toNat),_,?_,h,.inl ⟨some b,hl,.inr ⟨b,0 - p.toNat,cur,e',rfl,by simp [hp0],by omega,by omega,hrow,by simp [hp0]; omega⟩⟩⟩;simp [execOp,hop,Instr.sliceAt,Instr.slice,he,hu,hb,hz,hp0]
     refine ⟨.slice (some ⟨b,off+p.toNat*k,none⟩) (q.toNat - p.toNat) (cap - p.toNat),_,?_,h,.inl ⟨some b,hl,.inr ⟨b,cap - p.toNat,cur,e',rfl,rfl,by omega,by omega,hrow,?_⟩⟩⟩
     ·simp [execOp,hop,Instr.sliceAt,Instr.slice,he,hu,hb,hz,hpc,Addr.add_lit]
     rw [Nat.sub_mul];have:p.toNat*k≤cap*k:=Nat.mul_le_mul_right _ hpcap;omega
    exact absurd hd (hs.notDead hlive)
   exact h.elim
  exact h.elim
 ·-- the builtins
  rename_i c hop
  split at h
  ·rename_i t x hc ht hx0
   have hargs:c.args = #[x]:=Array.toList_inj.1 (by simpa using hx0);have hty:c.argTypes = #[t]:=Array.toList_inj.1 (by simpa using ht)
   have hrun:∀ v,(Builtin.len_ #[t] o.type #[a.eval x]).run P w=.ok v w→(execOp a.eval o).run P w=.ok (.value v) w:=fun v hv=>by
    simp [execOp,hop,resolve,hc,hargs,hty,invoke,builtin,hv]
   split at h
   ·rename_i sz by' z l hT hx
    obtain ⟨he,hl⟩:=hs.ev hx;have hu:=ty_under hT
    have hsz:(⟨l.toArray⟩:ByteArray).size=l.length:=by show l.toArray.size=_; simp
    exact ⟨_,_,hrun _ (by simp [Builtin.len_,hu,he,hsz,goInt]),h,rfl,wf_len hl⟩
   ·rename_i e sz by' z k n cs hT hx
    have hu:=ty_under hT;obtain ⟨_,_,hm,⟨hn,a0,he⟩ | ⟨b,off,cap,vs,he,_⟩⟩:=hs.ev hx
    ·subst hn
     exact ⟨_,_,hrun _ (by simp [Builtin.len_,hu,he,goInt]),h,rfl,wf_len hm⟩
    exact ⟨_,_,hrun _ (by simp [Builtin.len_,hu,he,goInt]),h,rfl,wf_len hm⟩
   ·rename_i e sz by' z id ver k off n hT hx
    have hu:=ty_under hT;obtain ⟨hlive,h⟩:=h
    rcases hs.ev hx with ⟨l,hl,⟨_,he,hn,_⟩ | ⟨b,cap,cur,e',rfl,he,hnc,hcm,_⟩⟩ | ⟨hd,_⟩
    ·subst hn
     exact ⟨_,_,hrun _ (by simp [Builtin.len_,hu,he,goInt]),h,rfl,by simp [Lit.wf,IntKind.min,IntKind.max,IntKind.signed,IntKind.bits]⟩
    ·exact ⟨_,_,hrun _ (by simp [Builtin.len_,hu,he,goInt]),h,rfl,wf_len (Nat.le_trans hnc hcm)⟩
    exact absurd hd (hs.notDead hlive)
   ·rename_i e sz by' z hT hx
    have hu:=ty_under hT;have he:a.eval x=.slice none 0 0:=hs.ev hx;exact ⟨_,_,hrun _ (by simp [Builtin.len_,hu,he,goInt]),h,rfl,by decide⟩
   ·rename_i kt e sz by' z hT hx
    have hu:=ty_under hT;have he:a.eval x=.map none:=hs.ev hx;exact ⟨_,_,hrun _ (by simp [Builtin.len_,hu,he,goInt]),h,rfl,by decide⟩
   ·rename_i kt e sz by' z id ver hT hx
    have hu:=ty_under hT;split at h
    ·rename_i ver' es hg
     obtain ⟨rfl,hle,h⟩:=h;obtain ⟨l,hl,hor⟩:=hs.sr.has id _ _ hg
     rcases hs.ev hx with ⟨b,hb,he⟩ | ⟨hd,_⟩
     ·rw [hl] at hb
      cases hb;obtain ⟨ents,clock,h1,h2,_⟩:=hor
      have hlen:ents.size=es.length:=by
       have:=congrArg List.length h2
       simpa using this
      refine ⟨_,_,hrun _ ?_,h,rfl,wf_len hle⟩;simp [Builtin.len_,hu,he,getObj,Sem.run,h1,hlen,goInt]
     exact absurd hl (hd.2 l)
    exact h.elim
   exact h.elim
  ·rename_i b x y hc hx0
   have hargs:c.args = #[x,y]:=Array.toList_inj.1 (by simpa using hx0);split at h
   ·rename_i k p k' q hx hy
    obtain ⟨hb,rfl,h⟩:=h;obtain ⟨h1,hw1⟩:=hs.ev hx; obtain ⟨h2,hw2⟩:=hs.ev hy;refine ⟨.int k (minmax b p q),_,?_,h,rfl,wf_minmax hw1 hw2⟩
    rcases hb with rfl | rfl
    ·simp [execOp,hop,resolve,hc,hargs,invoke,builtin,h1,h2,Builtin.min_,Builtin.min2,minmax,Int.min_def]
     omega
    simp [execOp,hop,resolve,hc,hargs,invoke,builtin,h1,h2,Builtin.max_,Builtin.max2,minmax,Int.max_def];omega
   exact h.elim
  ·rename_i b x y z hc hx0
   have hargs:c.args = #[x,y,z]:=Array.toList_inj.1 (by simpa using hx0);split at h
   ·rename_i k p k' q k'' r hx hy hz
    obtain ⟨hb,rfl,rfl,h⟩:=h;obtain ⟨h1,hw1⟩:=hs.ev hx; obtain ⟨h2,hw2⟩:=hs.ev hy; obtain ⟨h3,hw3⟩:=hs.ev hz;refine ⟨.int k (minmax b (minmax b p q) r),_,?_,h,rfl,wf_minmax (wf_minmax hw1 hw2) hw3⟩
    rcases hb with rfl | rfl
    ·simp [execOp,hop,resolve,hc,hargs,invoke,builtin,h1,h2,h3,Builtin.min_,Builtin.min2,minmax,Int.min_def]
     omega
    simp [execOp,hop,resolve,hc,hargs,invoke,builtin,h1,h2,h3,Builtin.max_,Builtin.max2,minmax,Int.max_def];omega
   exact h.elim
  ·rename_i b x y z u hc hx0
   have hargs:c.args = #[x,y,z,u]:=Array.toList_inj.1 (by simpa using hx0);split at h
   ·rename_i k p k' q k'' r k3 t hx hy hz hu
    obtain ⟨hb,rfl,rfl,rfl,h⟩:=h;obtain ⟨h1,hw1⟩:=hs.ev hx; obtain ⟨h2,hw2⟩:=hs.ev hy; obtain ⟨h3,hw3⟩:=hs.ev hz; obtain ⟨h4,hw4⟩:=hs.ev hu;refine ⟨.int k (minmax b (minmax b (minmax b p q) r) t),_,?_,h,rfl,wf_minmax (wf_minmax (wf_minmax hw1 hw2) hw3) hw4⟩
    rcases hb with rfl | rfl
    ·simp [execOp,hop,resolve,hc,hargs,invoke,builtin,h1,h2,h3,h4,Builtin.min_,Builtin.min2,minmax,Int.min_def]
     omega
    simp [execOp,hop,resolve,hc,hargs,invoke,builtin,h1,h2,h3,h4,Builtin.max_,Builtin.max2,minmax,Int.max_def];omega
   exact h.elim
  ·rename_i b x y z u v hc hx0
   have hargs:c.args = #[x,y,z,u,v]:=Array.toList_inj.1 (by simpa using hx0);split at h
   ·rename_i k p k' q k'' r k3 t k4 o' hx hy hz hu hv
    obtain ⟨hb,rfl,rfl,rfl,rfl,h⟩:=h;obtain ⟨h1,hw1⟩:=hs.ev hx; obtain ⟨h2,hw2⟩:=hs.ev hy; obtain ⟨h3,hw3⟩:=hs.ev hz; obtain ⟨h4,hw4⟩:=hs.ev hu; obtain ⟨h5,hw5⟩:=hs.ev hv;refine ⟨.int k (minmax b (minmax b (minmax b (minmax b p q) r) t) o'),_,?_,h,rfl,wf_minmax (wf_minmax (wf_minmax (wf_minmax hw1 hw2) hw3) hw4) hw5⟩
    rcases hb with rfl | rfl
    ·simp [execOp,hop,resolve,hc,hargs,invoke,builtin,h1,h2,h3,h4,h5,Builtin.min_,Builtin.min2,minmax,Int.min_def]
     omega
    simp [execOp,hop,resolve,hc,hargs,invoke,builtin,h1,h2,h3,h4,h5,Builtin.max_,Builtin.max2,minmax,Int.max_def];omega
   exact h.elim
  exact h.elim
 exact h.elim
end
structure Same (w w':World):Prop where
 os:w'.os=w.os
 tape:w'.tape=w.tape
 output:w'.output=w.output
 drawn:w.drawn≤w'.drawn
theorem Same.refl (w:World):Same w w:=⟨rfl,rfl,rfl,Nat.le_refl _⟩
theorem Same.trans {w w1 w2:World} (h:Same w w1) (h':Same w1 w2):Same w w2:=⟨h'.os.trans h.os,h'.tape.trans h.tape,h'.output.trans h.output,Nat.le_trans h.drawn h'.drawn⟩
structure Grow (w w':World):Prop extends Same w w' where
 size:w.heap.size≤w'.heap.size
 old:∀ b,b<w.heap.size→w'.heap[b]?=w.heap[b]?
theorem Grow.refl (w:World):Grow w w:=⟨Same.refl w,Nat.le_refl _,fun _ _=>rfl⟩
theorem Grow.trans {w w1 w2:World} (h:Grow w w1) (h':Grow w1 w2):Grow w w2 :=
 ⟨h.toSame.trans h'.toSame,Nat.le_trans h.size h'.size,fun b hb=>(h'.old b (Nat.lt_of_lt_of_le hb h.size)).trans (h.old b hb)⟩
theorem Grow.alloc (w:World) (o:Obj):Grow w (w.alloc o) :=
 ⟨⟨rfl,rfl,rfl,Nat.le_refl _⟩,by show w.heap.size≤(w.heap.push o).size; rw [Array.size_push]; omega,fun b hb=>by
  show (w.heap.push o)[b]?=_
  rw [Array.getElem?_push,if_neg (by omega)]⟩
theorem Grow.drew1 (w:World) (n:Nat) (hn:w.drawn≤n:=by exact Nat.le_succ _):Grow w { w with drawn:=n }:=⟨⟨rfl,rfl,rfl,hn⟩,Nat.le_refl _,fun _ _=>rfl⟩
section
variable {w w':World} {μ:Mu} {H:Heap}
theorem SR.blk (h:SR w μ H) {id ver b:Nat} (hl:μ.loc id=some (ver,some b)):b<w.heap.size:=by
 obtain ⟨⟨v,o⟩,ho⟩:=h.only id _ hl;obtain ⟨l,hl',hor⟩:=h.has id v o ho;rw [hl] at hl';cases hl';exact hor.lt
theorem Evo.grow (h:SR w μ H) (g:Grow w w'):Evo w μ w' μ where
 os:=g.os
 tape:=g.tape
 output:=g.output
 drawn:=g.drawn
 size:=g.size
 nx:=Nat.le_refl _
 keep:=fun b hb _=>g.old b hb
 loc:=fun _ _ _ hl _=>hl
 row:=fun id ver b hl _ cur e hr=>⟨cur,hr.of_heap (g.old b (h.blk hl)),rfl⟩
 own:=fun id ver _ hl _=>⟨id,ver,hl⟩
 held:=rfl
theorem SR.grow (h:SR w μ H) (g:Grow w w'):SR w' μ H where
 ok:=h.ok
 has:=fun id ver o ho=>by
  obtain ⟨l,hl,hor⟩:=h.has id ver o ho;refine ⟨l,hl,hor.evo (Evo.grow h g) h.ok (fun b hb=>?_) (fun mid mver seen cur _ mb hm _=>g.old mb (h.blk hm))⟩;subst hb;exact g.old b hor.lt
 only:=h.only
 inj:=h.inj
 held:=fun b hb=>⟨Nat.lt_of_lt_of_le (h.held b hb).1 g.size,(h.held b hb).2⟩
def Mu.set (μ:Mu) (id:Nat) (l:Option Nat):Mu:={ nx:=μ.nx+1,loc:=fun j=>if j=id then some (μ.nx,l) else μ.loc j,held:=μ.held }
theorem Evo.repl (h:SR w μ H) (id:Nat) (l:Option Nat) (hs:Same w w') (hsz:w.heap.size≤w'.heap.size)
  (hold:∀ b,b<w.heap.size→(∀ ver,μ.loc id≠some (ver,some b))→w'.heap[b]?=w.heap[b]?)
  (hl:∀ b,l=some b→w.heap.size≤b∨∃ ver,μ.loc id=some (ver,some b)):Evo w μ w' (μ.set id l) where
 os:=hs.os
 tape:=hs.tape
 output:=hs.output
 drawn:=hs.drawn
 size:=hsz
 nx:=Nat.le_succ _
 keep:=fun b hb ho=>hold b hb fun ver hv=>ho ⟨id,ver,hv⟩
 loc:=fun j ver b hj hv=>by
  simp only [Mu.set] at hj;split at hj
  ·cases hj; omega
  exact hj
 row:=fun j ver b hj hv cur e hr=>by
  simp only [Mu.set] at hj;split at hj
  ·cases hj; omega
  rename_i hne
  exact ⟨cur,hr.of_heap (hold b (h.blk hj) fun v hv'=>hne (h.inj _ _ _ _ _ hj hv')),rfl⟩
 own:=fun j ver b hj hb=>by
  simp only [Mu.set] at hj;split at hj
  ·cases hj
   rcases hl b rfl with h1 | ⟨v,h1⟩
   ·omega
   exact ⟨id,v,h1⟩
  exact ⟨j,ver,hj⟩
 held:=rfl
theorem SR.repl (h:SR w μ H) (id:Nat) (l:Option Nat) (o:AObj) (hs:Same w w') (hsz:w.heap.size≤w'.heap.size)
  (hold:∀ b,b<w.heap.size→(∀ ver,μ.loc id≠some (ver,some b))→w'.heap[b]?=w.heap[b]?)
  (hl:∀ b,l=some b→w.heap.size≤b∨∃ ver,μ.loc id=some (ver,some b)) (ho:OR w' (μ.set id l) o l):SR w' (μ.set id l) (hset H id μ.nx o) where
 ok:=fun j ver b hj=>by
  simp only [Mu.set] at hj ⊢;split at hj
  ·cases hj; omega
  have:=h.ok j ver b hj; omega
 has:=fun j ver o' hj=>by
  rw [hget_hset] at hj;split at hj
  ·rename_i he
   cases hj;exact ⟨l,by simp [Mu.set,he],ho⟩
  rename_i hne
  obtain ⟨l',hl',hor⟩:=h.has j ver o' hj;refine ⟨l',by simp [Mu.set,hne,hl'],hor.evo (Evo.repl h id l hs hsz hold hl) h.ok (fun b hb=>?_) (fun mid mver seen cur _ mb hm hm'=>?_)⟩
  ·subst hb
   exact hold b hor.lt fun v hv=>hne (h.inj _ _ _ _ _ hl' hv)
  refine hold mb (h.blk hm) fun v hv=>?_;have:=h.inj _ _ _ _ _ hm hv;subst this;simp only [Mu.set,if_true] at hm';cases hm';have:=h.ok _ _ _ hm;omega
 only:=fun j x hj=>by
  rw [hget_hset];simp only [Mu.set] at hj;split
  ·exact ⟨_,rfl⟩
  rename_i hne
  rw [if_neg hne] at hj;exact h.only j x hj
 inj:=fun i j v u b hi hj=>by
  simp only [Mu.set] at hi hj
  split at hi <;> split at hj
  ·rename_i e1 e2; rw [e1,e2]
  ·rename_i e1 e2
   cases hi
   rcases hl b rfl with h1 | ⟨v',h1⟩
   ·have:=h.blk hj; omega
   exact e1.trans (h.inj _ _ _ _ _ h1 hj)
  ·rename_i e1 e2
   cases hj
   rcases hl b rfl with h1 | ⟨v',h1⟩
   ·have:=h.blk hi; omega
   exact (h.inj _ _ _ _ _ hi h1).trans e2.symm
  exact h.inj _ _ _ _ _ hi hj
 held:=fun b hb=>by
  obtain ⟨h1,h2⟩:=h.held b hb;refine ⟨Nat.lt_of_lt_of_le h1 hsz,fun ⟨j,ver,hj⟩=>?_⟩;simp only [Mu.set] at hj;split at hj
  ·cases hj
   rcases hl b rfl with h3 | ⟨v,h3⟩
   ·omega
   exact h2 ⟨id,v,h3⟩
  exact h2 ⟨j,ver,hj⟩
theorem SR.updArr (h:SR w μ H) {id ver k b:Nat} {e:TypeId} {cs cs':List HV} {cur cur':Array Value} (hg:hget H id=some (ver,.arr k e cs)) (hl:μ.loc id=some (ver,some b))
    (hs:Same w w') (hsz:w'.heap.size=w.heap.size) (hold:∀ b',b'≠b→w'.heap[b']?=w.heap[b']?) (hr:Row w b cur e) (hr':Row w' b cur' e) (hc:cur'.size=cur.size)
    (ho:Evo w μ w' μ→OR w' μ (.arr k e cs') (some b)):SR w' μ (hset H id ver (.arr k e cs'))∧Evo w μ w' μ:=by
  have E:Evo w μ w' μ :=
    { os:=hs.os,tape:=hs.tape,output:=hs.output,drawn:=hs.drawn,size:=by omega,nx:=Nat.le_refl _
      keep:=fun b' _ hno=>hold b' fun e=>hno (e ▸ ⟨id,ver,hl⟩)
      loc:=fun _ _ _ h _=>h
      row := fun j v b' hj _ c e' hrow=>by
        by_cases he:b'=b
        · subst he
          obtain ⟨rfl,rfl⟩:=hrow.inj hr;exact ⟨cur',hr',hc⟩
        exact ⟨c,hrow.of_heap (hold b' he),rfl⟩
      own:=fun j v b' hj _=>⟨j,v,hj⟩
      held:=rfl }
  refine ⟨⟨h.ok,fun j v o' hj=>?_,fun j x hj=>?_,h.inj,fun b' hb=>⟨by rw [hsz]; exact (h.held b' hb).1,(h.held b' hb).2⟩⟩,E⟩
  · rw [hget_hset] at hj
    split at hj
    · rename_i he
      subst he;cases hj;exact ⟨some b,hl,ho E⟩
    rename_i hne
    obtain ⟨l',hl',hor⟩:=h.has j v o' hj;refine ⟨l',hl',hor.evo E h.ok (fun b' hb=>?_) (fun mid mver seen cur' ho' mb hm _=>?_)⟩
    · subst hb
      exact hold b' fun e'=>hne (h.inj _ _ _ _ _ (e' ▸ hl') hl)
    refine hold mb fun e'=>?_;subst e';subst ho'
    cases l' with
    | none=>exact hor.elim
    | some b' =>
      obtain ⟨_,mb',since,sn,last,_,h2⟩:=hor;obtain ⟨he,ents,clock,h3,_⟩:=h2 _ hm;cases he;obtain ⟨lo,hi,h4,_⟩:=hr;rw [h3] at h4;cases h4
  rw [hget_hset];split
  · exact ⟨_,rfl⟩
  exact h.only j x hj
end
theorem Row.alloc (w:World) (cur:Array Value) (e:TypeId):Row (w.alloc (.cells cur e)) w.heap.size cur e :=
 ⟨0,0,by show (w.heap.push _)[w.heap.size]?=_; simp,.inl (Nat.le_refl _)⟩
theorem SR.alloc {w:World} {μ:Mu} {H:Heap} (h:SR w μ H) (id k:Nat) (e:TypeId) {cs:List HV} {vs rest:List Value} (ho:ones cs) (hc:RepL w μ cs vs) :
  SR (w.alloc (.cells (vs++rest).toArray e)) (μ.set id (some w.heap.size)) (hset H id μ.nx (.arr k e cs))∧Evo w μ (w.alloc (.cells (vs++rest).toArray e)) (μ.set id (some w.heap.size)):=by
 have g:=Grow.alloc w (.cells (vs++rest).toArray e);have hE:=Evo.repl h id (some w.heap.size) g.toSame g.size (fun b hb _=>g.old b hb) (fun b hb=>by cases hb; exact .inl (Nat.le_refl _));refine ⟨h.repl id (some w.heap.size) _ g.toSame g.size (fun b hb _=>g.old b hb) (fun b hb=>by cases hb; exact .inl (Nat.le_refl _)) ?_,hE⟩;exact ⟨ho,(vs++rest).toArray,vs,rest,Row.alloc w _ e,by simp,RepL.evo hE h.ok _ _ hc⟩
def Enters' (P:Program) (f:FuncId):Prop:=∀ (aa:Array Value) (w:World),(callFunc f aa).run P w=.ok (.enter f aa) w
theorem enters' {P:Program} {f:FuncId} {fn:Func} {c:Code} (hf:P.funcs[f]?=some fn) (hname:(fn.name == "runtime.NumGoroutine")=false) (hb:fn.body=some c):Enters' P f:=by
 intro args w
 have h1:fn.name ≠ "runtime.NumGoroutine" := by simpa using hname
 simp [callFunc,hf,h1,hb]
def CallPost (K:HV→Heap→Prop) (w:World) (μ:Mu) (e:Ending) (w':World):Prop :=
 ∃ v r H' μ',e=.returned v∧K r H'∧SR w' μ' H'∧Rep w' μ' r v∧Evo w μ w' μ'
def ACall (P:Program) (f:FuncId) (args:List HV) (H:Heap) (K:HV→Heap→Prop):Prop :=
 Enters' P f∧∀ μ w vs,SR w μ H→RepL w μ args vs→GlOk w μ→Calls P f vs.toArray w (CallPost K w μ)
theorem ACall.mono {P:Program} {f:FuncId} {args:List HV} {H:Heap} {K K':HV→Heap→Prop} (h:ACall P f args H K) (hk:∀ r H',K r H'→K' r H'):ACall P f args H K' :=
 ⟨h.1,fun μ w vs hs hr hgl=>(h.2 μ w vs hs hr hgl).mono fun _ _ ⟨v,r,H',μ',e,k,rest⟩=>⟨v,r,H',μ',e,hk _ _ k,rest⟩⟩
def frz:Nat→Heap→HV→HV
 | 0,_,h=>h
 | n+1,D,h=>match h with
  | .agg cs=>.agg (cs.map (frz n D))
  | .tup cs=>.tup (cs.map (frz n D))
  | .fn f fs cs=>.fn f (fs.map (frz n D)) (cs.map (frz n D))
  | .ar id ver k off m=>match hget D id with
   | some (ver',.arr _ _ cs)=>if ver=ver'∧off+m*k≤cs.length then .sl k m (((cs.drop off).take (m*k)).map (frz n D)) else .ar id ver k off m
   | _=>.ar id ver k off m
  | .ptr id ver off=>match hget D id with
   | some (ver',.arr _ _ cs)=>if ver=ver' then .fptr (cs.map (frz n D)) off else .ptr id ver off
   | _=>.ptr id ver off
  | h=>h
theorem frz_one (n:Nat) (D:Heap) (h:HV):(frz n D h).one=h.one:=by
 cases n with
 | zero=>rfl
 | succ n =>
  cases h with
  | ar id ver k off m=>simp only [frz]; split <;> (try split) <;> rfl
  | ptr id ver off=>simp only [frz]; split <;> (try split) <;> rfl
  | _=>rfl
theorem ones_frz {n:Nat} {D:Heap} {cs:List HV} (h:ones cs):ones (cs.map (frz n D)):=by
 intro c hc;obtain ⟨d,hd,rfl⟩:=List.mem_map.1 hc;rw [frz_one]; exact h d hd
theorem RepL.mapF {w:World} {μ μ':Mu} {f:HV→HV}:∀ {cs:List HV} {vs:List Value},(∀ c x,c∈cs→Rep w μ c x→Rep w μ' (f c) x)→RepL w μ cs vs→RepL w μ' (cs.map f) vs
 | [],_,_,h=>h
 | c::cs,_,hf,⟨x,xs,e,h1,h2⟩=>⟨x,xs,e,hf c x (List.mem_cons_self ..) h1,RepL.mapF (fun d y hd=>hf d y (List.mem_cons_of_mem _ hd)) h2⟩
theorem frz_rep {w:World} {μ:Mu} {H D H':Heap} (hs:SR w μ H) (hD:∀ id x,hget D id=some x→hget H id=some x∧hget H' id=none) (n:Nat) :
  ∀ (h:HV) (v:Value),Rep w μ h v→Rep w (μ.cut H') (frz n D h) v:=by
 induction n with
 | zero=>exact fun h v hr=>Rep.evo (Evo.cut w μ H') hs.ok h v hr
 | succ n ih =>
  intro h v hr;have hl:∀ {cs:List HV} {vs:List Value},RepL w μ cs vs→RepL w (μ.cut H') (cs.map (frz n D)) vs:=fun hc=>RepL.mapF (fun c x _=>ih c x) hc;have keep:Rep w (μ.cut H') h v:=Rep.evo (Evo.cut w μ H') hs.ok h v hr
  cases h with
  | agg cs=>exact ⟨ones_frz hr.1,hr.2.imp fun vs h=>⟨h.1,hl h.2⟩⟩
  | tup cs=>exact hr.imp fun vs h=>⟨h.1,hl h.2⟩
  | fn f fs cs =>
   obtain ⟨us,vs,e,h1,h2⟩:=hr;exact ⟨us,vs,e,hl h1,hl h2⟩
  | ar id ver k off m =>
   simp only [frz];split
   ·rename_i ver' k' e' cs hg
    split
    ·rename_i hc
     obtain ⟨rfl,hlen⟩:=hc;obtain ⟨hgH,hgn⟩:=hD id _ hg;obtain ⟨l,hloc,hor⟩:=hs.has id _ _ hgH
     rcases hr with ⟨l',hl',hr⟩ | ⟨hd,_⟩
     ·rw [hloc] at hl'
      cases hl'
      rcases hr with ⟨rfl,rfl,rfl,rfl⟩ | ⟨b,cap,cur,e,rfl,rfl,hn,hc,hrow,hsz⟩
      ·refine ⟨by simp [ones],by simp,by simp,.inl ⟨rfl,none,rfl⟩⟩
      obtain ⟨h1,cur',vs,rest,hrow',hcl,hrl⟩:=hor;obtain ⟨rfl,rfl⟩:=hrow.inj hrow';have hvl:=hrl.length;refine ⟨ones_frz ((h1.drop off).take _),?_,by omega,.inr ⟨b,off,cap,(vs.drop off).take (m*k),rfl,hn,?_,?_,hl ((hrl.drop off).take _)⟩⟩
      ·rw [List.length_map,List.length_take,List.length_drop]; omega
      ·rintro (⟨id',v',h'⟩ | hh')
       ·have h'':=Mu.cut_some h'
        have:=hs.inj _ _ _ _ _ h'' hloc;subst this;simp only [Mu.cut,hgn] at h';simp at h'
       exact (hs.held b hh').2 ⟨id,_,hloc⟩
      obtain ⟨lo,hi,hh,_⟩:=hrow;have hseg:Seg w b 0 vs:=⟨cur,e,(lo,hi),[],rest,hh,by simpa using hcl,rfl⟩;have:=(hseg.drop off (by omega)).take (m*k)
      rwa [Nat.zero_add] at this
     exact absurd hloc (hd.2 l)
    exact keep
   exact keep
  | ptr id ver off =>
   simp only [frz];split
   ·rename_i ver' k' e' cs hg
    split
    ·rename_i hc
     subst hc;obtain ⟨hgH,hgn⟩:=hD id _ hg;obtain ⟨l,hloc,hor⟩:=hs.has id _ _ hgH
     rcases hr with ⟨b,hl',rfl⟩ | ⟨hd,_⟩
     ·rw [hloc] at hl'
      cases hl';obtain ⟨h1,cur',vs,rest,⟨lo,hi,hh,_⟩,hcl,hrl⟩:=hor;refine ⟨ones_frz h1,b,0,vs,by rw [Nat.zero_add],?_,⟨cur',e',(lo,hi),[],rest,hh,by simpa using hcl,rfl⟩,hl hrl⟩
      rintro (⟨id',v',h'⟩ | hh')
      ·have h'':=Mu.cut_some h'
       have:=hs.inj _ _ _ _ _ h'' hloc;subst this;simp only [Mu.cut,hgn] at h';simp at h'
      exact (hs.held b hh').2 ⟨id,_,hloc⟩
     exact absurd hloc (hd.2 l)
    exact keep
   exact keep
  | _=>exact keep
def resOne (P:Program) (s:AS) (rv:ResultVar) (R:HV→Prop):Prop :=
 match rv with
 | .tmp t=>match sget s.slots t with
  | some h=>R h
  | none=>False
 | .cell t ty'=>match ty P ty',sget s.slots t with
  | some T,some (.fptr cs off)=>loadK T cs off R
  | some T,some (.ptr id ver off)=>match hget s.heap id with
   | some (ver',.arr _ _ cs)=>ver=ver'∧loadK T cs off R
   | _=>False
  | _,_=>False
def resAll (P:Program) (s:AS):List ResultVar→(List HV→Prop)→Prop
 | [],R=>R []
 | rv::rvs,R=>resOne P s rv fun h=>resAll P s rvs fun hs=>R (h::hs)
def joinR:List HV→HV
 | [h]=>h
 | hs=>.tup hs
def Conv (H:Heap) (r0 r:HV) (H':Heap):Prop:=∀ w μ v,SR w μ H→Rep w μ r0 v→∃ μ',SR w μ' H'∧Rep w μ' r v∧Evo w μ w μ'
def retQ (P:Program) (rvs:List ResultVar) (K:HV→Heap→Prop) (e:Exit) (s:AS):Prop :=
 (e=.normal∨e=.ret)∧resAll P s rvs fun hs=>∃ r H',Conv s.heap (joinR hs) r H'∧K r H'
theorem Conv.drop {H:Heap} {r:HV} {H':Heap} (hs:∀ id x,hget H' id=some x→hget H id=some x):Conv H r r H' :=
 fun w μ v h hr=>⟨μ.cut H',h.sub hs,Rep.evo (Evo.cut w μ H') h.ok r v hr,Evo.cut w μ H'⟩
theorem Conv.refl (H:Heap) (r:HV):Conv H r r H:=Conv.drop fun _ _ h=>h
theorem Conv.frz {H:Heap} {r0:HV} {H':Heap} (n:Nat) (D:Heap) (hs:∀ id x,hget H' id=some x→hget H id=some x)
  (hD:∀ id x,hget D id=some x→hget H id=some x∧hget H' id=none):Conv H r0 (frz n D r0) H' :=
 fun w μ v h hr=>⟨μ.cut H',h.sub hs,frz_rep h hD n r0 v hr,Evo.cut w μ H'⟩
theorem Conv.all {H:Heap} {r0:HV} (n:Nat):Conv H r0 (AW.frz n H r0) [] :=
 Conv.frz n H (fun _ _ h=>by cases h) fun _ _ h=>⟨h,rfl⟩
theorem rep_nil_sl {w:World} {μ:Mu} {v:Value} (k:Nat) (h:Rep w μ (.v (.slice none 0 0)) v):Rep w μ (.sl k 0 []) v :=
 ⟨ones.nil,by simp,by simp,.inl ⟨rfl,none,h⟩⟩
theorem Conv.trans {H H1 H2:Heap} {r0 r1 r2:HV} (h:Conv H r0 r1 H1) (h':Conv H1 r1 r2 H2):Conv H r0 r2 H2:=by
 intro w μ v hs hr;obtain ⟨μ1,hs1,hr1,E1⟩:=h w μ v hs hr;obtain ⟨μ2,hs2,hr2,E2⟩:=h' w μ1 v hs1 hr1;exact ⟨μ2,hs2,hr2,E1.trans E2⟩
inductive Le:HV→HV→Prop
 | refl (h:HV):Le h h
 | nil (k:Nat):Le (.v (.slice none 0 0)) (.sl k 0 [])
 | empty (k k':Nat):Le (.sl k 0 []) (.sl k' 0 [])
inductive LeL:List HV→List HV→Prop
 | nil:LeL [] []
 | cons {a b:HV} {aa bs:List HV} (h:Le a b) (h':LeL aa bs):LeL (a::aa) (b::bs)
theorem Le.rep {w:World} {μ:Mu} {a b:HV} (h:Le a b) {v:Value} (hr:Rep w μ a v):Rep w μ b v:=by
 cases h with
 | refl=>exact hr
 | nil k=>exact rep_nil_sl k hr
 | empty k k' =>
  obtain ⟨h1,h2,h3,h4⟩:=hr;exact ⟨ones.nil,by simp,h3,h4.imp id fun ⟨b,off,cap,vs,e,hn,ho,hs,hr⟩=>⟨b,off,cap,vs,e,hn,ho,hs,hr⟩⟩
theorem LeL.rep {w:World} {μ:Mu}:∀ {aa bs:List HV} (_:LeL aa bs) {vs:List Value},RepL w μ aa vs→RepL w μ bs vs
 | _,_,.nil,_,h=>h
 | _,_,.cons h h',_,⟨x,xs,e,h1,h2⟩=>⟨x,xs,e,h.rep h1,LeL.rep h' h2⟩
theorem Conv.le {H:Heap} {a b:HV} (h:Le a b):Conv H a b H:=fun w μ _ hs hr=>⟨μ,hs,h.rep hr,Evo.refl w μ⟩
def resSem (tmps:Array Value) (rv:ResultVar):Sem Value :=
 match rv with
 | .tmp t=>pure (tmps.getD t undef)
 | .cell x t=>do loadVar t (← asAddr (tmps.getD x undef))
theorem resAll_run {P:Program} {ro:Option Nat} {N B:Nat} {s:AS} {μ:Mu} {a:Act} {w:World} (hs:SRel ro N B μ s a w) :
  ∀ (rvs:List ResultVar) (R:List HV→Prop),resAll P s rvs R→∃ vs hvs,(rvs.mapM (resSem a.tmps)).run P w=.ok vs w∧R hvs∧RepL w μ hvs vs
 | [],R,h=>⟨[],[],by simp,h,rfl⟩
 | rv :: rvs,R,h=>by
  have one:∃ v hv,(resSem a.tmps rv).run P w=.ok v w∧(resAll P s rvs fun hs=>R (hv::hs))∧Rep w μ hv v:=by
   simp only [resAll] at h
   cases rv with
   | tmp t =>
    simp only [resOne] at h;split at h
    ·rename_i hv ht
     exact ⟨_,hv,rfl,h,(hs.slot t hv ht).2⟩
    exact h.elim
   | cell x t =>
    simp only [resOne] at h;split at h
    ·rename_i T cs off hT hx
     obtain ⟨h0,b,base,vs,he,_,hsg,hl⟩:=(hs.slot x _ hx).2;obtain ⟨v,hv,h1,h2,h3⟩:=run_loadVar_seg hT hsg h0 hl off h;exact ⟨v,hv,by simp only [resSem,Sem.run_bind]; rw [he]; simp [asAddr,h1],h2,h3⟩
    ·rename_i T id ver off hT hx
     split at h
     ·rename_i ver' k e cs hg
      obtain ⟨rfl,h⟩:=h;obtain ⟨b,hl,he,hor⟩:=hs.live (hs.slot x _ hx).2 hg;obtain ⟨h0,vs,hsg,hcl⟩:=hor.seg;obtain ⟨v,hv,h1,h2,h3⟩:=run_loadVar_seg hT hsg h0 hcl off h;rw [Nat.zero_add] at h1;exact ⟨v,hv,by simp only [resSem,Sem.run_bind]; rw [he]; simp [asAddr,h1],h2,h3⟩
     exact h.elim
    exact h.elim
  obtain ⟨v,hv,h1,h2,h3⟩:=one;obtain ⟨vs,hvs,h4,h5,h6⟩:=resAll_run hs rvs _ h2;refine ⟨v::vs,hv::hvs,?_,h5,v,vs,rfl,h3,h6⟩;rw [List.mapM_cons];simp only [Sem.run_bind,h1,Result.andThen_ok,h4,Sem.run_pure]
theorem results_run {P:Program} {ro:Option Nat} {N B:Nat} {s:AS} {μ:Mu} {a:Act} {w:World} (hs:SRel ro N B μ s a w) (fn:Func) {R:List HV→Prop} (h:resAll P s fn.results.toList R) :
  ∃ v hvs,(results fn a.tmps).run P w=.ok v w∧R hvs∧Rep w μ (joinR hvs) v:=by
 obtain ⟨vs,hvs,h1,h2,h3⟩:=resAll_run hs _ _ h;have hlen:=h3.length
 have hr:(results fn a.tmps).run P w=.ok (if h:vs.toArray.size=1 then vs.toArray[0] else .tuple vs.toArray) w:=by
  have:results fn a.tmps=(do
   let vs←fn.results.mapM (resSem a.tmps)
   pure (if h:vs.size=1 then vs[0] else .tuple vs)):=by
   unfold results
   congr 1
  rw [this,Array.mapM_eq_mapM_toList];simp only [Sem.run_bind,Sem.run_map,h1,Result.andThen_ok,Sem.run_pure]
 refine ⟨_,hvs,hr,h2,?_⟩
 match hvs,vs,hlen,h3 with
 | [],vs,hlen,h3 =>
  simp at hlen;subst hlen;exact ⟨[],by simp,h3⟩
 | [c],vs,hlen,h3 =>
  obtain ⟨x,xs,rfl,hx,hn⟩:=h3;simp only [RepL] at hn;subst hn
  simpa [joinR] using hx
 | c::d::hvs,vs,hlen,h3 =>
  have hne:vs.toArray.size≠1:=by simp [hlen]
  rw [dif_neg hne];exact ⟨vs,rfl,h3⟩
theorem takeDeferred_run {P:Program} {w:World} {r:Nat} (h:w.heap[r]?=some (.deferred (some []))) :
  (Instr.takeDeferred r).run P w=.ok [] { w with heap:=w.heap.setIfInBounds r (.deferred none) }:=by
 simp [Instr.takeDeferred,getObj,setObj,Sem.run,h]
theorem set_other {w:World} {r b:Nat} (o:Obj) (h:b≠r):({ w with heap:=w.heap.setIfInBounds r o }:World).heap[b]?=w.heap[b]?:=by
 show (w.heap.setIfInBounds r o)[b]?=_;rw [Array.getElem?_setIfInBounds,if_neg (fun e=>h e.symm)]
def Calm (w w':World):Prop:=∀ b:Nat,(∀ x,w.heap[b]?≠some (Obj.deferred x))→w'.heap[b]?=w.heap[b]?
theorem Seg.calm {w w':World} (h:Calm w w') {b off:Nat} {vs:List Value} (hs:Seg w b off vs):Seg w' b off vs:=by
 obtain ⟨cur,e,fr,pre,post,h1,h2,h3⟩:=hs;exact ⟨cur,e,fr,pre,post,(h b (fun x hx=>by rw [h1] at hx; cases hx)).trans h1,h2,h3⟩
theorem Row.calm {w w':World} (h:Calm w w') {b:Nat} {cur:Array Value} {e:TypeId} (hr:Row w b cur e):Row w' b cur e:=by
 obtain ⟨lo,hi,h1,h2⟩:=hr;exact ⟨lo,hi,(h b (fun x hx=>by rw [h1] at hx; cases hx)).trans h1,h2⟩
mutual
theorem Rep.calm {w w':World} {μ:Mu} (hc:Calm w w'):∀ (hv:HV) (val:Value),Rep w μ hv val→Rep w' μ hv val
 | .int _ _,_,h=>h
 | .bool _,_,h=>h
 | .str _,_,h=>h
 | .v _,_,h=>h
 | .agg cs,_,⟨h1,vs,e,h⟩=>⟨h1,vs,e,RepL.calm hc cs vs h⟩
 | .tup cs,_,⟨vs,e,h⟩=>⟨vs,e,RepL.calm hc cs vs h⟩
 | .sl _ _ cs,_,⟨h1,hl,hm,h⟩=>⟨h1,hl,hm,h.imp id fun ⟨b,off,cap,vs,e,hn,ho,hs,hr⟩=>⟨b,off,cap,vs,e,hn,ho,hs.calm hc,RepL.calm hc cs vs hr⟩⟩
 | .ar _ _ _ _ _,_,h=>h.imp (fun ⟨l,hl,h⟩=>⟨l,hl,h.imp id fun ⟨b,cap,cur,e,h1,h2,h3,h4,h5,h6⟩=>⟨b,cap,cur,e,h1,h2,h3,h4,h5.calm hc,h6⟩⟩) id
 | .ptr _ _ _,_,h=>h
 | .fptr cs _,_,⟨h1,b,base,vs,e,ho,hs,hr⟩=>⟨h1,b,base,vs,e,ho,hs.calm hc,RepL.calm hc cs vs hr⟩
 | .fn _ fs cs,_,⟨us,vs,e,h1,h2⟩=>⟨us,vs,e,RepL.calm hc fs us h1,RepL.calm hc cs vs h2⟩
 | .mp _ _,_,h=>h
 | .yl _ _,_,h=>h
 | .it _ _,_,h=>h
theorem RepL.calm {w w':World} {μ:Mu} (hc:Calm w w'):∀ (cs:List HV) (vs:List Value),RepL w μ cs vs→RepL w' μ cs vs
 | [],_,h=>h
 | c::cs,_,⟨x,xs,e,h1,h2⟩=>⟨x,xs,e,Rep.calm hc c x h1,RepL.calm hc cs xs h2⟩
end
theorem OR.calm {w w':World} {μ:Mu} (hc:Calm w w') {o:AObj} {l:Option Nat} (h:OR w μ o l):OR w' μ o l:=by
 have hb:∀ {b:Nat} {o':Obj},w.heap[b]?=some o'→(∀ x,o' ≠ .deferred x)→w'.heap[b]?=some o':=fun {b o'} h1 h2 =>
  (hc b (fun x hx=>by rw [h1] at hx; cases hx; exact h2 x rfl)).trans h1
 cases l with
 | none=>cases o <;> exact h
 | some b =>
  cases o with
  | arr k e cs =>
   obtain ⟨h0,cur,vs,rest,h1,h2,h3⟩:=h;exact ⟨h0,cur,vs,rest,h1.calm hc,h2,RepL.calm hc _ _ h3⟩
  | map es =>
   obtain ⟨ents,clock,h1,h2,h3,h4,h5⟩:=h;exact ⟨ents,clock,hb h1 (fun x hx=>by cases hx),h2,RepL.calm hc _ _ h3,h4,h5⟩
  | iter mid mver seen cur =>
   obtain ⟨h0,mb,since,sn,last,h1,h2⟩:=h;refine ⟨h0,mb,since,sn,last,hb h1 (fun x hx=>by cases hx),fun l hl=>?_⟩;obtain ⟨e,ents,clock,h3,h4⟩:=h2 l hl;exact ⟨e,ents,clock,hb h3 (fun x hx=>by cases hx),h4⟩
  | loop st pend f n snap ps assign body =>
   obtain ⟨tmps,dfr,h1,h2,h3⟩:=h;exact ⟨tmps,dfr,hb h1 (fun x hx=>by cases hx),h2,fun t hv ht=>⟨(h3 t hv ht).1,Rep.calm hc _ _ (h3 t hv ht).2⟩⟩
  | kmap es =>
   obtain ⟨ents,clock,h1,h2⟩:=h;exact ⟨ents,clock,hb h1 (fun x hx=>by cases hx),h2⟩
  | gmap es pe =>
   obtain ⟨ents,clock,h1,h2,h3,h4⟩:=h;exact ⟨ents,clock,hb h1 (fun x hx=>by cases hx),h2,RepL.calm hc _ _ h3,h4⟩
theorem GlOk.calm {w w':World} {μ:Mu} (hc:Calm w w') (h:GlOk w μ):GlOk w' μ:=by
 refine ⟨fun g hg=>?_,fun p hp i c hi=>?_⟩
 ·obtain ⟨⟨m,hm⟩,ho⟩:=h.1 g hg
  refine ⟨⟨m,?_⟩,ho⟩
  have e:w'.heap[g]?=w.heap[g]?:=hc g fun x hx=>by simp [World.cell?,hx] at hm
  simp only [World.cell?,e] at hm ⊢;exact hm
 obtain ⟨hm,ho⟩:=h.2 p hp i c hi;refine ⟨?_,ho⟩
 have e:w'.heap[p.1]?=w.heap[p.1]?:=hc p.1 fun x hx=>by simp [World.cell?,hx] at hm
 simp only [World.cell?,e] at hm ⊢;exact hm
theorem SR.calm {w w':World} {μ:Mu} {H:Heap} (hc:Calm w w') (hz:w'.heap.size=w.heap.size) (h:SR w μ H):SR w' μ H :=
 ⟨h.ok,fun id ver o ho=>let ⟨l,hl,hor⟩:=h.has id ver o ho; ⟨l,hl,hor.calm hc⟩,h.only,h.inj,fun b hb=>⟨by rw [hz]; exact (h.held b hb).1,(h.held b hb).2⟩⟩
theorem leaves_marks {P:Program} {ro:Option Nat} {fn:Func} {tmps:Array Value} {R:Ending→World→Prop} :
  ∀ (rs:List Nat) (w:World),rs.Nodup→(∀ r∈rs,w.heap[r]?=some (.deferred (some []))) →
   (∀ w',Calm w w'→Same w w'→w'.heap.size=w.heap.size→(∀ b:Nat,b ∉ rs→w'.heap[b]?=w.heap[b]?)→∃ v,(results fn tmps).run P w'=.ok v w'∧R (.returned v) w') →
   LeavesInM (fence ro) 0 P fn tmps R (rs.map fun r=>{ target:=.collected r,args:=#[] }) .returning w
 | [],w,_,_,h=>h w (fun _ _=>rfl) (Same.refl w) rfl (fun _ _=>rfl)
 | r::rs,w,hn,hh,h=>by
  have hr:=hh r (List.mem_cons_self ..);have hnd:=List.nodup_cons.1 hn;refine ⟨by simp,.inl ⟨r,_,rfl,takeDeferred_run hr,?_⟩⟩;refine leaves_marks rs _ hnd.2 (fun x hx=>?_) fun w' hc hs hz ho=>?_
  ·rw [set_other _ (fun e=>hnd.1 (by rw [← e]; exact hx))]
   exact hh x (List.mem_cons_of_mem _ hx)
  have hoth:∀ b,b≠r→({ w with heap:=w.heap.setIfInBounds r (.deferred none) }:World).heap[b]?=w.heap[b]?:=fun b hb=>set_other _ hb;refine h w' (fun b hb=>?_) ⟨hs.os,hs.tape,hs.output,hs.drawn⟩ (by rw [hz]; simp) (fun b hb=>?_)
  ·have hbr:b≠r:=fun e=>hb _ (e ▸ hr)
   rw [hc b (fun x hx=>hb x (by rw [← hoth b hbr]; exact hx)),hoth b hbr]
  simp only [List.mem_cons,not_or] at hb;rw [ho b hb.2,hoth b hb.1]
def enumS:Nat→List HV→List (Nat × HV)
 | _,[]=>[]
 | i,h::hs=>(i,h)::enumS (i+1) hs
theorem sget_enumS:∀ (hs:List HV) (i t:Nat),sget (enumS i hs) t=if i≤t then hs[t - i]? else none
 | [],i,t=>by simp [enumS,sget]
 | h::hs,i,t=>by
  simp only [enumS,sget,sget_enumS hs (i+1) t];by_cases h1:t=i
  ·subst h1; simp
  rw [if_neg h1];by_cases h2:i≤t
  ·rw [if_pos h2,if_pos (by omega)]
   obtain ⟨d,rfl⟩:∃ d,t=i+1+d:=⟨t - i - 1,by omega⟩;rw [show i+1+d - (i+1)=d by omega,show i+1+d - i=d+1 by omega,List.getElem?_cons_succ]
  rw [if_neg h2,if_neg (by omega)]
theorem ACall.of_body {P:Program} {f:FuncId} {fn:Func} {c:Code} {args:List HV} {H:Heap} {K:HV→Heap→Prop} (hf:P.funcs[f]?=some fn) (hname:(fn.name == "runtime.NumGoroutine")=false)
    (hb:fn.body=some c) (hN:args.length≤fn.ntmps) (h:AW P none fn.ntmps c (retQ P fn.results.toList K) { slots:=enumS 0 args,heap:=H }):ACall P f args H K:=by
  refine ⟨enters' hf hname hb,fun μ w vs hs hr hgl=>?_⟩;have hvl:=hr.length;refine (callsIn_wide (n:=0)).1 (callsIn_of_wp_marks (F:=fence none) hf hb trivial ?_ rfl)
  have hs0:SRel none fn.ntmps w.heap.size μ { slots:=enumS 0 args,heap:=H } { tmps:=vs.toArray++Array.replicate (fn.ntmps - vs.toArray.size) undef,defers:=[] } w:=by
    refine ⟨by simp; omega,hs,fun t hv ht=>?_,Marks.nil _ _ _,hgl⟩;rw [sget_enumS] at ht;simp only [Nat.zero_le,if_true,Nat.sub_zero] at ht;obtain ⟨x,hx,hrep⟩:=hr.get ht;have hlt:t<vs.length:=(List.getElem?_eq_some_iff.1 hx).1;refine ⟨by omega,?_⟩
    have:(vs.toArray++Array.replicate (fn.ntmps - vs.toArray.size) undef).getD t undef=x:=by
      rw [Array.getD_eq_getD_getElem?,Array.getElem?_append_left (by simpa using hlt)];simp [hx]
    rw [this];exact hrep
  refine wpIn_mono (h w μ μ _ w hs0 (Evo.refl w μ)) ?_
  rintro e a' w' ⟨h1,h2,μ',s',⟨he,hret⟩,h4,h5⟩
  have key:LeavesInM (fence none) 0 P fn a'.tmps (CallPost K w μ) a'.defers .returning w':=by
    obtain ⟨rs,hd,hnd,hrs⟩:=h4.marks;rw [hd];refine leaves_marks rs w' hnd (fun r hr=>(hrs r hr).2.1) fun w2 hc hsame hsz hoth=>?_
    have hs2:SRel none fn.ntmps w.heap.size μ' s' { a' with defers:=[] } w2 :=
      ⟨h4.size,h4.sr.calm hc hsz,fun t hv ht=>⟨(h4.slot t hv ht).1,Rep.calm hc _ _ (h4.slot t hv ht).2⟩,Marks.nil _ _ _,GlOk.calm hc h4.ro⟩
    obtain ⟨v,hvs,hv1,⟨r,H',hconv,hK⟩,hv3⟩:=results_run hs2 fn hret;refine ⟨v,hv1,?_⟩;obtain ⟨μ2,hsr2,hrep2,E2⟩:=hconv w2 μ' v hs2.sr hv3
    have E1:Evo w μ w2 μ' :=
      { os:=hsame.os.trans h5.os,tape:=hsame.tape.trans h5.tape,output:=hsame.output.trans h5.output,drawn:=Nat.le_trans h5.drawn hsame.drawn,size:=by rw [hsz]; exact h5.size,nx:=h5.nx
        keep:=fun b hb hno=>by
          rw [hoth b (fun hm=>by have:=(hrs b hm).1; omega)];exact h5.keep b hb hno
        loc:=h5.loc
        row:=fun id ver b hl hv cur e hrow=>by
          obtain ⟨cur',h6,h7⟩:=h5.row id ver b hl hv cur e hrow;exact ⟨cur',h6.calm hc,h7⟩
        own:=h5.own,held:=h5.held }
    exact ⟨v,r,H',μ2,rfl,hK,hsr2,hrep2,E1.trans E2⟩
  rcases he with rfl | rfl
  · exact key
  exact key
def okd (N:Nat) (d:Option Tmp):Bool:=match d with
 | some t=>decide (t<N)
 | none=>true
def AS.put (s:AS) (d:Option Tmp) (h:HV):AS:=match d with
 | some t=>{ s with slots:=sset s.slots t h }
 | none=>s
def AOp (P:Program) (ro:Option Nat) (N:Nat) (o:Oper) (K:AS→Prop) (s:AS):Prop :=
 ∀ (w0:World) (μ0 μ:Mu) (a:Act) (w:World) (next:Act→World→Prop) (Q:Exit→Act→World→Prop),SRel ro N w0.heap.size μ s a w→Evo w0 μ0 w μ →
  (∀ μ' s' a' w',K s'→SRel ro N w0.heap.size μ' s' a' w'→Evo w0 μ0 w' μ'→next a' w')→o.wpIn (fence ro) 0 P a w next Q
section
variable {P:Program} {ro:Option Nat} {N B:Nat} {s:AS} {μ μ':Mu} {a:Act} {w w':World}
theorem SRel.put (hs:SRel ro N B μ s a w) (E:Evo w μ w' μ') {H':Heap} (hsr:SR w' μ' H') {d:Option Tmp} (hd:okd N d=true) {hv:HV} {v:Value} (hr:Rep w' μ' hv v) :
  SRel ro N B μ' (({ s with heap:=H' }:AS).put d hv) (a.put d v) w':=by
 cases d with
 | none=>exact ⟨hs.size,hsr,fun t h ht=>⟨(hs.slot t h ht).1,Rep.evo E hs.sr.ok _ _ (hs.slot t h ht).2⟩,hs.marks.evo E,hs.ro.evo E⟩
 | some t =>
  have htN:t<N:=by simpa [okd] using hd
  refine ⟨by simp [Act.put,hs.size],hsr,fun j h hj=>?_,hs.marks.evo E,hs.ro.evo E⟩;simp only [AS.put,sget_sset] at hj;split at hj
  ·rename_i he
   subst he;cases hj;refine ⟨htN,?_⟩
   have:(a.put (some j) v).tmps.getD j undef=v:=by
    simp only [Act.put];rw [Array.getD_eq_getD_getElem?,Array.getElem?_setIfInBounds_self_of_lt (by rw [hs.size]; exact htN)];rfl
   rw [this]; exact hr
  rename_i hne
  obtain ⟨h1,h2⟩:=hs.slot j h hj;refine ⟨h1,?_⟩
  have:(a.put (some t) v).tmps.getD j undef=a.tmps.getD j undef:=by
   simp only [Act.put];rw [Array.getD_eq_getD_getElem?,Array.getD_eq_getD_getElem?,Array.getElem?_setIfInBounds_ne (fun e=>hne e.symm)]
  rw [this]; exact Rep.evo E hs.sr.ok _ _ h2
theorem AOp.value {o:Oper} {K:AS→Prop} (hnd:∀ c,o.op ≠ .defer c) (hN:okd N o.dst=true)
  (h:∀ B μ a w,SRel ro N B μ s a w→∃ v hv μ' w' H',(execOp a.eval o).run P w=.ok (.value v) w'∧SR w' μ' H'∧Evo w μ w' μ'∧Rep w' μ' hv v∧K (({ s with heap:=H' }:AS).put o.dst hv)) :
  AOp P ro N o K s:=by
 intro w0 μ0 μ a w next Q hs hE hK
 obtain ⟨v,hv,μ',w',H',h1,h2,h3,h4,h5⟩:=h _ μ a w hs;refine ⟨fun f _=>trivial,?_⟩;rw [Oper.semAt_eq _ _ _ hnd,h1];exact hK μ' _ _ w' h5 (hs.put h3 h2 hN h4) (hE.trans h3)
theorem AOp.skip {o:Oper} {K:AS→Prop} (hnd:∀ c,o.op ≠ .defer c) (hN:okd N o.dst=true)
  (h:∀ B μ a w,SRel ro N B μ s a w→∃ μ' w' H',(execOp a.eval o).run P w=.ok .skip w'∧SR w' μ' H'∧Evo w μ w' μ'∧K (({ s with heap:=H' }:AS).put o.dst (.v undef))) :
  AOp P ro N o K s:=by
 intro w0 μ0 μ a w next Q hs hE hK
 obtain ⟨μ',w',H',h1,h2,h3,h5⟩:=h _ μ a w hs;refine ⟨fun f _=>trivial,?_⟩;rw [Oper.semAt_eq _ _ _ hnd,h1];exact hK μ' _ _ w' h5 (hs.put h3 h2 hN (rfl:Rep w' μ' (.v undef) undef)) (hE.trans h3)
theorem AOp.pure {o:Oper} {K:AS→Prop} (hN:okd N o.dst=true) (h:aval P o.op s fun hv=>K (s.put o.dst hv)):AOp P ro N o K s:=by
 refine AOp.value (fun c e=>by rw [e] at h; exact h) hN fun B μ a w hs=>?_;obtain ⟨v,hv,h1,h2,h3⟩:=aval_sound hs o h;exact ⟨v,hv,μ,w,s.heap,h1,hs.sr,Evo.refl w μ,h3,h2⟩
theorem AOp.call {o:Oper} {K:AS→Prop} {c:Call} {f:Operand} {g:FuncId} {fs cs hs:List HV} (hop:o.op=.call c) (hc:c.callee=.value f) (hN:okd N o.dst=true)
  (hf:s.ev f=some (.fn (.func g) fs cs)) (ha:c.args.toList.mapM s.ev=some hs) (h:ACall P g (fs++hs++cs) s.heap fun r H'=>K (({ s with heap:=H' }:AS).put o.dst r)):AOp P ro N o K s:=by
 intro w0 μ0 μ a w next Q hsr hE hK
 refine ⟨fun f _=>trivial,?_⟩;rw [Oper.semAt_eq _ _ _ (fun c e=>by rw [hop] at e; cases e)];obtain ⟨us,vs,he,h1,h2⟩:=hsr.ev hf;have h3:=mapM_ev hsr ha
 have hrun:(execOp a.eval o).run P w=.ok (.enter g ((us++c.args.toList.map a.eval++vs).toArray)) w:=by
  have:(us.toArray++c.args.map a.eval++vs.toArray)=(us++c.args.toList.map a.eval++vs).toArray:=by
   apply Array.toList_inj.1; simp
  simp only [execOp,hop,resolve,hc,he,Deferred.ofValue,Sem.run_bind,Sem.run_pure,Result.andThen_ok,invoke,h.1 _ w,this]
 rw [hrun];refine ⟨fun hd=>absurd (fence_depth ro hd) (by omega),?_⟩;have hcall:=h.2 μ w _ hsr.sr (RepL.append (RepL.append h1 h3) h2) hsr.ro;have hin:CallsIn (fence ro) 0 P g (us++c.args.toList.map a.eval++vs).toArray w (CallPost _ w μ):=(callsIn_wide (n:=0)).2 hcall;refine hin.mono ?_
 rintro e w' ⟨v,r,H',μ',rfl,hk,hsr',hr,E⟩
 exact hK μ' _ _ w' hk (hsr.put E hsr' hN hr) (hE.trans E)
def splice (xs:List HV) (off:Nat):List HV→List HV
 | [c]=>xs.set off c
 | cs=>xs.take off++cs++xs.drop (off+cs.length)
theorem storeCells_row (b o:Nat) (e:TypeId):∀ (vs:List Value) (i:Nat) (cur:Array Value) (w:World),Row w b cur e→o+i+vs.length≤cur.size→(∀ v∈vs,v.oneCell'=true) →
  ∃ w' cur',(storeCells ⟨b,o,none⟩ vs i).run P w=.ok () w'∧Row w' b cur' e∧cur'.toList=cur.toList.take (o+i)++vs++cur.toList.drop (o+i+vs.length) ∧
   Same w w'∧w'.heap.size=w.heap.size∧∀ b',b'≠b→w'.heap[b']?=w.heap[b']?
 | [],i,cur,w,hr,_,_=>⟨w,cur,rfl,hr,by simp,Same.refl w,rfl,fun _ _=>rfl⟩
 | v::vs,i,cur,w,hr,hlen,h1=>by
  simp only [List.length_cons] at hlen
  have hlt:o+i<cur.size:=by omega
  have hcell:=hr.cell (o+i);rw [Array.getElem?_eq_getElem hlt] at hcell;have hfree:=hr.free hlt
  have hst:(store (Addr.add ⟨b,o,none⟩ i) v).run P w=.ok () (w.setCell ⟨b,o+i,none⟩ v):=by
   rw [run_store P w _ v .plain (h1 v (List.mem_cons_self ..)),Addr.add_lit,hcell,hfree];rfl
  have hr':Row (w.setCell ⟨b,o+i,none⟩ v) b (cur.setIfInBounds (o+i) v) e:=by
   obtain ⟨lo,hi,hh,hf⟩:=hr;refine ⟨lo,hi,?_,by simpa using hf⟩;show (w.heap.modify b _)[b]?=_;rw [Array.getElem?_modify,if_pos rfl,hh];simp
  obtain ⟨w',cur',h2,h3,h4,h5,h6,h7⟩:=storeCells_row b o e vs (i+1) _ _ hr' (by simpa using by omega) (fun u hu=>h1 u (List.mem_cons_of_mem _ hu));refine ⟨w',cur',?_,h3,?_,⟨h5.os,h5.tape,h5.output,h5.drawn⟩,by rw [h6]; show (w.heap.modify b _).size=_; simp,fun b' hb'=>?_⟩
  ·simp only [storeCells,Sem.run_bind,hst,Result.andThen_ok,h2]
  ·rw [h4,Array.toList_setIfInBounds]
   have hl:cur.toList.length=cur.size:=by simp
   have hs:cur.toList.set (o+i) v=(cur.toList.take (o+i)++[v])++cur.toList.drop (o+i+1):=by
    rw [List.set_eq_take_append_cons_drop,if_pos (by omega)];simp
   have ht:(cur.toList.take (o+i)++[v]).length=o+(i+1):=by simp; omega
   have h1:(cur.toList.set (o+i) v).take (o+(i+1))=cur.toList.take (o+i)++[v]:=by
    rw [hs,← ht]; exact List.take_left
   have h2:(cur.toList.set (o+i) v).drop (o+(i+1)+vs.length)=cur.toList.drop (o+i+(vs.length+1)):=by
    rw [hs,← List.drop_drop,← ht,List.drop_left,List.drop_drop]
    congr 1
    omega
   rw [h1,h2];simp
  rw [h7 b' hb'];show (w.heap.modify b _)[b']?=_;rw [Array.getElem?_modify,if_neg (fun e=>hb' e.symm)]
theorem splice_eq {xs cs:List HV} {off:Nat} (h:off+cs.length≤xs.length):splice xs off cs=xs.take off++cs++xs.drop (off+cs.length):=by
 unfold splice;split
 ·rename_i c
  simp only [List.length_cons,List.length_nil] at h;rw [List.set_eq_take_append_cons_drop,if_pos (by omega)];simp
 rfl
theorem AOp.store {o:Oper} {K:AS→Prop} {t:TypeId} {x y:Operand} {id ver off k:Nat} {e:TypeId} {hv:HV} {xs cs:List HV} {T:TyI} (hop:o.op=.store t x y) (hN:okd N o.dst=true)
  (hx:s.ev x=some (.ptr id ver off)) (hy:s.ev y=some hv) (hcs:hv.cells?=some cs) (hg:hget s.heap id=some (ver,.arr k e xs)) (hT:ty P t=some T) (hsz:T.size=cs.length)
  (hfit:off+cs.length≤xs.length) (h:K (({ s with heap:=hset s.heap id ver (.arr k e (splice xs off cs)) }:AS).put o.dst (.v undef))):AOp P ro N o K s:=by
 refine AOp.skip (fun c e=>by rw [hop] at e; cases e) hN fun B μ a w hs=>?_;obtain ⟨b,hl,he,h0,cur,vs,rest,hrow,hcl,hrl⟩:=hs.live (hs.ev hx) hg;have hyr:=hs.ev hy;have hcr:=cells?_rep hcs hyr;have hone:=cells?_ones hcs hyr;have hcl':=hcr.length;have hvl:=hrl.length
 have hcurl:cur.toList.length=vs.length+rest.length:=by rw [hcl,List.length_append]
 obtain ⟨w',cur',h1,h2,h3,h4,h5,h6⟩:=storeCells_row (P:=P) b off e (a.eval y).cells.toList 0 cur w hrow (by rw [← Array.length_toList]; omega) (RepL.oneCells hone hcr)
 have hclen:cur'.size=cur.size:=by
  rw [← Array.length_toList,h3];simp only [List.length_append,List.length_take,List.length_drop,Nat.add_zero,← Array.length_toList];omega
 obtain ⟨hsr,hE⟩:=hs.sr.updArr (cs':=splice xs off cs) hg hl h4 h5 h6 hrow h2 hclen fun E=>by
  have hcr':=RepL.evo E hs.sr.ok _ _ hcr;have hrl':=RepL.evo E hs.sr.ok _ _ hrl;rw [splice_eq hfit];refine ⟨((h0.take _).append hone).append (h0.drop _),cur',vs.take off++(a.eval y).cells.toList++vs.drop (off+cs.length),rest,h2,?_,((hrl'.take off).append hcr').append (hrl'.drop _)⟩;rw [h3,hcl,Nat.add_zero,hcl',List.take_append_of_le_length (by omega),List.drop_append_of_le_length (by omega)];simp
 refine ⟨μ,w',_,?_,hsr,hE,h⟩
 have hsz':(a.eval y).cells.size=T.size:=by rw [hsz,← hcl',Array.length_toList]
 simp [execOp,hop,he,Instr.storeAt,Instr.sureAddr,storeVar,ty_sizeOf hT,hsz',h1]
theorem zcells_ones {v:Value} {cs:List HV} (h:zcells v=some cs):ones cs:=by
 cases v with
 | agg xs =>
  simp only [zcells] at h;split at h
  ·split at h
   ·rename_i hb; cases h; exact ones_of_b hb
   cases h
  cases h
 | tuple vs=>cases h
 | _ =>
  simp only [zcells] at h;split at h
  ·split at h
   ·cases h; exact ones.single (by assumption)
   cases h
  cases h
theorem AOp.alloc {o:Oper} {K:AS→Prop} {e:TypeId} {T:TyI} {zs:List HV} (id:Nat) (hop:o.op=.alloc e) (hN:okd N o.dst=true) (hT:ty P e=some T) (hz:zcells T.zero=some zs)
  (h:∀ ver,K (({ s with heap:=hset s.heap id ver (.arr zs.length e zs) }:AS).put o.dst (.ptr id ver 0))):AOp P ro N o K s:=by
 refine AOp.value (fun c e=>by rw [hop] at e; cases e) hN fun B μ a w hs=>?_;have hr:=zcells_rep (w:=w) (μ:=μ) hz;obtain ⟨hsr,hE⟩:=hs.sr.alloc id zs.length e (rest:=[]) (zcells_ones hz) hr;rw [List.append_nil] at hsr hE;refine ⟨.pointer (some ⟨w.heap.size,0,none⟩),.ptr id μ.nx 0,_,_,_,?_,hsr,hE,.inl ⟨w.heap.size,by simp [Mu.set],rfl⟩,h μ.nx⟩;simp [execOp,hop,Instr.alloc,ty_zero hT,newVar,newRow,World.alloc_eq]
theorem AOp.box {o:Oper} {K:AS→Prop} {e:TypeId} {x:Operand} {hv:HV} {cs:List HV} (hop:o.op=.box e x) (hN:okd N o.dst=true) (hx:s.ev x=some hv) (hcs:hv.cells?=some cs)
  (h:K (s.put o.dst (.fptr cs 0))):AOp P ro N o K s:=by
 refine AOp.value (fun c e=>by rw [hop] at e; cases e) hN fun B μ a w hs=>?_;have hxr:=hs.ev hx;have hcr:=cells?_rep hcs hxr;have g:=Grow.alloc w (.cells (a.eval x).cells e);have hE:=Evo.grow hs.sr g;refine ⟨.pointer (some ⟨w.heap.size,0,none⟩),.fptr cs 0,μ,w.alloc (.cells (a.eval x).cells e),s.heap,?_,hs.sr.grow g,hE,⟨cells?_ones hcs hxr,w.heap.size,0,(a.eval x).cells.toList,rfl,?_,?_,RepL.evo hE hs.sr.ok _ _ hcr⟩,h⟩
 ·simp [execOp,hop,Instr.box,newVar,newRow,World.alloc_eq]
 ·rintro (⟨id,ver,hl⟩ | hh)
  ·have:=hs.sr.blk hl
   omega
  have:=(hs.sr.held _ hh).1;omega
 exact ⟨(a.eval x).cells,e,(0,0),[],[],by show (w.heap.push _)[w.heap.size]?=_; simp,by simp,rfl⟩
theorem AOp.boxM {o:Oper} {K:AS→Prop} {e:TypeId} {x:Operand} {hv:HV} {cs:List HV} (id:Nat) (hop:o.op=.box e x) (hN:okd N o.dst=true) (hx:s.ev x=some hv) (hcs:hv.cells?=some cs)
  (h:∀ ver,K (({ s with heap:=hset s.heap id ver (.arr cs.length e cs) }:AS).put o.dst (.ptr id ver 0))):AOp P ro N o K s:=by
 refine AOp.value (fun c e=>by rw [hop] at e; cases e) hN fun B μ a w hs=>?_;have hxr:=hs.ev hx;have hcr:=cells?_rep hcs hxr;obtain ⟨hsr,hE⟩:=hs.sr.alloc id cs.length e (rest:=[]) (cells?_ones hcs hxr) hcr;rw [List.append_nil] at hsr hE;refine ⟨.pointer (some ⟨w.heap.size,0,none⟩),.ptr id μ.nx 0,_,_,_,?_,hsr,hE,.inl ⟨w.heap.size,by simp [Mu.set],rfl⟩,h μ.nx⟩;simp [execOp,hop,Instr.box,newVar,newRow,World.alloc_eq]
end
def afill (place:Nat→Option (Nat × Nat)):List (Nat × HV)→List HV→Option (List HV)
 | [],cells=>some cells
 | (i,h)::rest,cells=>match place i,h.cells? with
  | some (off,size),some cs=>if cs.length=size∧off+cs.length≤cells.length then afill place rest (splice cells off cs) else none
  | _,_=>none
theorem foldl_set (off:Nat):∀ (vs:List Value) (i:Nat) (cells:Array Value),off+i+vs.length≤cells.size →
  ((vs.zipIdx i).foldl (fun (cs:Array Value) p=>cs.setIfInBounds (off+p.2) p.1) cells).toList=cells.toList.take (off+i)++vs++cells.toList.drop (off+i+vs.length)
 | [],i,cells,_=>by simp
 | v::vs,i,cells,h=>by
  simp only [List.length_cons] at h;rw [List.zipIdx_cons,List.foldl_cons,foldl_set off vs (i+1) _ (by simp; omega),Array.toList_setIfInBounds]
  have hl:cells.toList.length=cells.size:=by simp
  have hs:cells.toList.set (off+i) v=(cells.toList.take (off+i)++[v])++cells.toList.drop (off+i+1):=by
   rw [List.set_eq_take_append_cons_drop,if_pos (by omega)];simp
  have ht:(cells.toList.take (off+i)++[v]).length=off+(i+1):=by simp; omega
  have h1:(cells.toList.set (off+i) v).take (off+(i+1))=cells.toList.take (off+i)++[v]:=by
   rw [hs,← ht]; exact List.take_left
  have h2:(cells.toList.set (off+i) v).drop (off+(i+1)+vs.length)=cells.toList.drop (off+i+(vs.length+1)):=by
   rw [hs,← List.drop_drop,← ht,List.drop_left,List.drop_drop]
   congr 1
   omega
  rw [List.length_cons,h1,h2];simp
theorem fill_rep {w:World} {μ:Mu} (place:Nat→Option (Nat × Nat)):∀ {ps:List (Nat × HV)} {us:List (Nat × Value)} {cs0 cs:List HV} {cells:Array Value},
  ps.length=us.length→(∀ i:Nat,∀ p u,ps[i]?=some p→us[i]?=some u→p.1=u.1∧Rep w μ p.2 u.2)→ones cs0→RepL w μ cs0 cells.toList→afill place ps cs0=some cs →
   ∃ cells',Instr.fill place cells us=some cells'∧ones cs∧RepL w μ cs cells'.toList
 | [],[],cs0,cs,cells,_,_,h1,h2,h=>by
  simp only [afill,Option.some.injEq] at h;subst h;exact ⟨cells,rfl,h1,h2⟩
 | (i,hv)::ps,[],_,_,_,hl,_,_,_,_=>by simp at hl
 | [],_::_,_,_,_,hl,_,_,_,_=>by simp at hl
 | (i,hv)::ps,(j,v)::us,cs0,cs,cells,hl,hp,h1,h2,h=>by
  obtain ⟨e,hr⟩:=hp 0 _ _ rfl rfl;simp only at e hr;subst e;simp only [afill] at h;split at h
  ·rename_i off size ds hpl hds
   split at h
   ·rename_i hc
    obtain ⟨hsz,hfit⟩:=hc;have hdr:=cells?_rep hds hr;have hdl:=hdr.length;have hcl:=h2.length;rw [Array.length_toList] at hdl hcl;have hfold:=foldl_set off v.cells.toList 0 cells (by rw [Array.length_toList]; omega)
    have hrep:RepL w μ (splice cs0 off ds) ((v.cells.zipIdx.foldl (fun cs (c,j)=>cs.setIfInBounds (off+j) c) cells)).toList:=by
     rw [splice_eq hfit]
     have e1:(v.cells.zipIdx.foldl (fun cs (c,j)=>cs.setIfInBounds (off+j) c) cells)=((v.cells.toList.zipIdx 0).foldl (fun (cs:Array Value) p=>cs.setIfInBounds (off+p.2) p.1) cells):=by
      rw [← Array.foldl_toList,Array.toList_zipIdx]
     have hdl':v.cells.toList.length=ds.length:=hdr.length;rw [e1,hfold,Nat.add_zero,hdl'];exact ((h2.take off).append hdr).append (h2.drop _)
    obtain ⟨cells',h3,h4,h5⟩:=fill_rep place (by simpa using hl) (fun k p u hk hu=>hp (k+1) p u (by simpa using hk) (by simpa using hu))
     (by rw [splice_eq hfit]; exact ((h1.take _).append (cells?_ones hds hr)).append (h1.drop _)) hrep h
    refine ⟨cells',?_,h4,h5⟩;simp only [Instr.fill,hpl];rw [if_neg (by simp only [Bool.or_eq_true,bne_iff_ne,decide_eq_true_eq,not_or,Classical.not_not]; omega)];exact h3
   cases h
  cases h
def zrep (zs:List HV) (n:Nat):List HV:=(List.replicate n zs).flatten
theorem zrep_len (zs:List HV) (n:Nat):(zrep zs n).length=n*zs.length:=by simp [zrep]
theorem ones_zrep {zs:List HV} (h:ones zs) (n:Nat):ones (zrep zs n):=by
 intro c hc;simp only [zrep,List.mem_flatten,List.mem_replicate] at hc;obtain ⟨l,⟨_,rfl⟩,hc⟩:=hc;exact h c hc
theorem range_mod (z:List Value) (n:Nat):(List.range (n*z.length)).map (fun i=>z[i % z.length]!)=(List.replicate n z).flatten:=by
 induction n with
 | zero=>simp
 | succ n ih =>
  rw [Nat.succ_mul,List.range_add,List.map_append,ih,List.replicate_succ',List.flatten_append];simp only [List.flatten_cons,List.flatten_nil,List.append_nil,List.map_map]
  congr 1
  apply List.ext_getElem
  ·simp
  intro i h1 h2;simp only [List.length_map,List.length_range] at h1;simp only [List.getElem_map,List.getElem_range,Function.comp]
  have hm:(n*z.length+i) % z.length=i:=by rw [Nat.mul_comm,Nat.mul_add_mod]; exact Nat.mod_eq_of_lt h1
  rw [hm];simp [h1]
theorem bang_toList (a:Array Value) (i:Nat):a.toList[i]! = a[i]!:=by
 rw [List.getElem!_eq_getElem?_getD,Array.getElem!_eq_getD,Array.getD_eq_getD_getElem?,Array.getElem?_toList]
theorem range_mod' (a:Array Value) (n:Nat):((Array.range (n*a.size)).map fun i=>a[i % a.size]!).toList=(List.replicate n a.toList).flatten:=by
 rw [← range_mod];simp only [Array.toList_map,Array.toList_range,Array.length_toList,bang_toList]
theorem RepL.rep {w:World} {μ:Mu} {zs:List HV} {z:List Value} (h:RepL w μ zs z):∀ n,RepL w μ (zrep zs n) (List.replicate n z).flatten
 | 0=>by simp [zrep,RepL]
 | n+1=>by
  simp only [zrep,List.replicate_succ,List.flatten_cons];exact h.append (RepL.rep h n)
def aparts (s:AS) (ps:List (Nat × Operand)):Option (List (Nat × HV)):=ps.mapM fun p=>(s.ev p.2).map fun h=>(p.1,h)
section
variable {P:Program} {ro:Option Nat} {N B:Nat} {s:AS} {μ μ':Mu} {a:Act} {w w':World}
theorem aparts_spec (hs:SRel ro N B μ s a w):∀ {ps:List (Nat × Operand)} {qs:List (Nat × HV)},aparts s ps=some qs →
  qs.length=(ps.map fun p=>(p.1,a.eval p.2)).length∧∀ (i:Nat) (p:Nat × HV) (u:Nat × Value),qs[i]?=some p→(ps.map fun p=>(p.1,a.eval p.2))[i]?=some u→p.1=u.1∧Rep w μ p.2 u.2
 | [],qs,h=>by
  simp [aparts] at h;subst h;exact ⟨rfl,fun i p u h=>by simp at h⟩
 | p::ps,qs,h=>by
  simp only [aparts,List.mapM_cons,Option.pure_def,Option.bind_eq_bind,Option.bind_eq_some_iff,Option.map_eq_some_iff] at h;obtain ⟨q,⟨hv,hev,rfl⟩,rest,hrest,he⟩:=h;cases he;obtain ⟨h1,h2⟩:=aparts_spec hs hrest;refine ⟨by simpa using h1,fun i p' u hp hu=>?_⟩
  cases i with
  | zero =>
   simp at hp hu;subst hp hu;exact ⟨rfl,hs.ev hev⟩
  | succ i =>
   simp only [List.getElem?_cons_succ,List.map_cons] at hp hu;exact h2 i p' u hp hu
def aslice (P:Program) (s:AS) (t:TypeId) (n:Nat) (ps:List (Nat × Operand)) (R:Nat→TypeId→List HV→Prop):Prop :=
 match ty P t with
 | some ⟨.slice e,_,_,_⟩=>match ty P e with
  | some T=>match zcells T.zero,aparts s ps with
   | some zs,some qs=>zs.length=T.size∧n*T.size≤16777216∧match afill (fun i=>some (i*T.size,T.size)) qs (zrep zs n) with
    | some cs=>R T.size e cs
    | none=>False
   | _,_=>False
  | none=>False
 | _=>False
theorem aslice_run (hs:SRel ro N B μ s a w) {t:TypeId} {n:Nat} {ps:Array (Nat × Operand)} {R:Nat→TypeId→List HV→Prop} (h:aslice P s t n ps.toList R) :
  ∃ k e cs cells,R k e cs∧ones cs∧RepL w μ cs cells.toList∧cs.length=n*k∧n≤16777216*(n*k)+1*n ∧
   (Instr.buildSlice t n (ps.map fun (i,x)=>(i,a.eval x))).run P w=.ok (.slice (some ⟨w.heap.size,0,none⟩) n n) (w.alloc (.cells cells e)):=by
 unfold aslice at h;split at h
 ·rename_i e sz by' z hT
  split at h
  ·rename_i T hTe
   split at h
   ·rename_i zs qs hz hq
    obtain ⟨hzl,hsz,h⟩:=h;split at h
    ·rename_i cs hfill
     have hzr:=zcells_rep (w:=w) (μ:=μ) hz;have hzone:=zcells_ones hz
     have hzlen:T.zero.cells.size=T.size:=by rw [← Array.length_toList,hzr.length,hzl]
     have hstart:RepL w μ (zrep zs n) ((Array.range (n*T.size)).map fun i=>T.zero.cells[i % T.zero.cells.size]!).toList:=by
      have e1:((Array.range (n*T.size)).map fun i=>T.zero.cells[i % T.zero.cells.size]!).toList=(List.replicate n T.zero.cells.toList).flatten:=by
       rw [← hzlen];exact range_mod' _ n
      rw [e1];exact hzr.rep n
     obtain ⟨hl,hp⟩:=aparts_spec hs hq;obtain ⟨cells,hf,hone,hrep⟩:=fill_rep (fun i=>some (i*T.size,T.size)) hl hp (ones_zrep hzone n) hstart hfill;refine ⟨T.size,e,cs,cells,h,hone,hrep,?_,by omega,?_⟩
     ·have:∀ (ps:List (Nat × HV)) (c0 c1:List HV),afill (fun i=>some (i*T.size,T.size)) ps c0=some c1→c1.length=c0.length:=by
       intro ps
       induction ps with
       | nil=>intro c0 c1 h; simp [afill] at h; rw [h]
       | cons p ps ih =>
        intro c0 c1 h;obtain ⟨i,hv⟩:=p;simp only [afill] at h;split at h
        ·split at h
         ·rename_i hc
          rw [ih _ _ h,splice_eq hc.2];simp only [List.length_append,List.length_take,List.length_drop];omega
         cases h
        cases h
      rw [this _ _ _ hfill,zrep_len,hzl]
     have hu:=ty_under hT
     have hnot:¬ n*T.size>2 ^ 24:=by omega
     have hps:(ps.map fun (i,x)=>(i,a.eval x)).toList=ps.toList.map fun p=>(p.1,a.eval p.2):=by rw [Array.toList_map]
     by_cases h0:n*T.size=0
     ·have hz0:∀ f:Nat→Value,(Array.range (n*T.size)).map f = #[]:=fun f=>by rw [h0]; simp
      rw [hz0] at hf;simp only [Instr.buildSlice,Sem.run_bind,hu,Result.andThen_ok,ty_sizeOf hTe,hnot,if_false,hz0,hps];simp only [h0,if_true,Sem.run_bind,Sem.run_pure,Result.andThen_ok,hf];simp [newRow,World.alloc_eq]
     simp only [Instr.buildSlice,Sem.run_bind,hu,Result.andThen_ok,ty_sizeOf hTe,hnot,if_false,hps];simp only [h0,if_false,Sem.run_bind,ty_zero hTe,Sem.run_pure,Result.andThen_ok,hf];simp [newRow,World.alloc_eq]
    exact h.elim
   exact h.elim
  exact h.elim
 exact h.elim
theorem AOp.buildSlice {o:Oper} {K:AS→Prop} {t:TypeId} {n:Nat} {ps:Array (Nat × Operand)} (hop:o.op=.buildSlice t n ps) (hN:okd N o.dst=true) (hn:n≤16777216)
  (h:aslice P s t n ps.toList fun k _ cs=>K (s.put o.dst (.sl k n cs))):AOp P ro N o K s:=by
 refine AOp.value (fun c e=>by rw [hop] at e; cases e) hN fun B μ a w hs=>?_;obtain ⟨k,e,cs,cells,hK,hone,hrep,hlen,_,hrun⟩:=aslice_run hs h;have g:=Grow.alloc w (.cells cells e);have hE:=Evo.grow hs.sr g;refine ⟨_,.sl k n cs,μ,_,s.heap,by simp only [execOp,hop,Sem.run_bind,hrun,Result.andThen_ok,Sem.run_pure],hs.sr.grow g,hE,⟨hone,hlen,by simp only [maxLen]; omega,.inr ⟨w.heap.size,0,n,cells.toList,rfl,Nat.le_refl _,?_,?_,RepL.evo hE hs.sr.ok _ _ hrep⟩⟩,hK⟩
 ·rintro (⟨id,ver,hl⟩ | hh)
  ·have:=hs.sr.blk hl
   omega
  have:=(hs.sr.held _ hh).1;omega
 exact ⟨cells,e,(0,0),[],[],by show (w.heap.push _)[w.heap.size]?=_; simp,by simp,rfl⟩
theorem AOp.buildSliceM {o:Oper} {K:AS→Prop} {t:TypeId} {n:Nat} {ps:Array (Nat × Operand)} (id:Nat) (hop:o.op=.buildSlice t n ps) (hN:okd N o.dst=true) (hn:n≤16777216)
  (h:aslice P s t n ps.toList fun k e cs=>∀ ver,K (({ s with heap:=hset s.heap id ver (.arr k e cs) }:AS).put o.dst (.ar id ver k 0 n))):AOp P ro N o K s:=by
 refine AOp.value (fun c e=>by rw [hop] at e; cases e) hN fun B μ a w hs=>?_;obtain ⟨k,e,cs,cells,hK,hone,hrep,hlen,_,hrun⟩:=aslice_run hs h;obtain ⟨hsr,hE⟩:=hs.sr.alloc id k e (rest:=[]) hone hrep;rw [List.append_nil] at hsr hE;have hcl:=hrep.length;rw [Array.length_toList] at hcl;refine ⟨_,.ar id μ.nx k 0 n,_,_,_,by simp only [execOp,hop,Sem.run_bind,hrun,Result.andThen_ok,Sem.run_pure],hsr,hE,.inl ⟨some w.heap.size,by simp [Mu.set],.inr ⟨w.heap.size,n,cells,e,rfl,rfl,Nat.le_refl _,by simp only [maxLen]; omega,Row.alloc w cells e,by omega⟩⟩,hK μ.nx⟩
theorem run_makeSlice {t e:TypeId} {T Te:TyI} (hT:ty P t=some T) (hd:T.desc=.slice e) (hTe:ty P e=some Te) {l c:Int} (h0:0≤l) (h1:l≤c) (h2:c*Te.bytes≤281474976710656) (hc:c≤9223372036854775807) (w:World) :
  ∃ cells,(Instr.makeSlice t (.int .i64 l) (.int .i64 c)).run P w=.ok (.slice (some ⟨w.heap.size,0,none⟩) l.toNat c.toNat) (w.alloc (.cells cells e)) ∧
   (Te.zero.cells.size=Te.size→cells.toList=(List.replicate c.toNat Te.zero.cells.toList).flatten):=by
 have hu:=ty_under hT;rw [hd] at hu;obtain ⟨i,hi,hi1,hi2,hi3⟩:=ty_info hTe w;have hwl:IntKind.i64.wrap l=l:=IntWalk.i64_in l (by omega);have hwc:IntKind.i64.wrap c=c:=IntWalk.i64_in c (by omega)
 have hc0:0≤c:=by omega
 have hbl:(Te.bytes:Int)*l≤Te.bytes*c:=Int.mul_le_mul_of_nonneg_left h1 (by omega)
 have hbc:(Te.bytes:Int)*c≤281474976710656:=by rw [Int.mul_comm]; exact h2
 refine ⟨(Array.range (c.toNat*Te.size)).map fun j=>(if c.toNat*Te.size=0 then (#[]:Array Value) else Te.zero.cells)[j % (if c.toNat*Te.size=0 then (#[]:Array Value) else Te.zero.cells).size]!,?_,fun hz=>?_⟩
 ·have hno:¬ ((c<0∨(281474976710656:Int)<Te.bytes*c)∨l<0∨c<l):=by omega
  have hno':((c<0 || decide (↑Te.bytes*c>2 ^ 48)) || decide (l<0) || decide (l>c))=false:=by
   simp only [Bool.or_eq_false_iff,decide_eq_false_iff_not]; omega
  simp only [Instr.makeSlice,Sem.run_bind,hu,Result.andThen_ok,asInt,asIntOf,Sem.run_pure,hi,hi2,hwl,hwc];rw [hno'];simp only [Bool.false_eq_true,if_false,Sem.run_bind,run_askRoom,Result.andThen_ok,ty_sizeOf hTe];by_cases hz0:c.toNat*Te.size=0
  ·simp only [hz0,if_true,Sem.run_bind,Sem.run_pure,Result.andThen_ok]
   simp [newRow,World.alloc_eq]
  simp only [hz0,if_false,Sem.run_bind,ty_zero hTe,Sem.run_pure,Result.andThen_ok];simp [newRow,World.alloc_eq]
 by_cases hz0:c.toNat*Te.size=0
 ·rcases Nat.mul_eq_zero.1 hz0 with h | h
  ·simp [h]
  have:Te.zero.cells.toList=[]:=List.eq_nil_of_length_eq_zero (by rw [Array.length_toList,hz,h]);simp [this,h]
 simp only [hz0,if_false];rw [← hz];exact range_mod' _ _
end
section
variable {P:Program} {ro:Option Nat} {N B:Nat} {s:AS} {μ μ':Mu} {a:Act} {w w':World}
theorem zrep_take (zs:List HV) (n m:Nat) (h:n≤m):(zrep zs m).take (n*zs.length)=zrep zs n:=by
 obtain ⟨d,rfl⟩:∃ d,m=n+d:=⟨m - n,by omega⟩
 have:zrep zs (n+d)=zrep zs n++zrep zs d:=by simp [zrep,← List.replicate_append_replicate]
 rw [this,← zrep_len,List.take_left]
theorem AOp.makeSlice {o:Oper} {K:AS→Prop} {t e:TypeId} {T Te:TyI} {x y:Operand} {k1 k2:IntKind} {l c:Int} {zs:List HV} (id:Nat) (hop:o.op=.makeSlice t x y) (hN:okd N o.dst=true)
  (hT:ty P t=some T) (hd:T.desc=.slice e) (hTe:ty P e=some Te) (hz:zcells Te.zero=some zs) (hzl:zs.length=Te.size) (hx:s.ev x=some (.int .i64 l)) (hy:s.ev y=some (.int .i64 c))
  (h0:0≤l) (h1:l≤c) (h2:c*Te.bytes≤281474976710656)
  (h:∀ ver,K (({ s with heap:=hset s.heap id ver (.arr Te.size e (zrep zs l.toNat)) }:AS).put o.dst (.ar id ver Te.size 0 l.toNat))):AOp P ro N o K s:=by
 refine AOp.value (fun c e=>by rw [hop] at e; cases e) hN fun B μ a w hs=>?_;obtain ⟨hx1,_⟩:=hs.ev hx;obtain ⟨hy1,hyw⟩:=hs.ev hy
 have hc:c≤9223372036854775807:=by
  simp only [Lit.wf,Bool.and_eq_true,decide_eq_true_eq,IntKind.min,IntKind.max,IntKind.signed,IntKind.bits] at hyw;simp at hyw;omega
 have hzr:=zcells_rep (w:=w) (μ:=μ) hz
 have hzlen:Te.zero.cells.size=Te.size:=by rw [← Array.length_toList,hzr.length,hzl]
 obtain ⟨cells,hrun,hcells⟩:=run_makeSlice (P:=P) hT hd hTe h0 h1 h2 hc w;have hcl:=hcells hzlen;have hfull:=hzr.rep c.toNat;rw [← hcl] at hfull
 have hle:l.toNat≤c.toNat:=by omega
 have htake:=hfull.take (l.toNat*zs.length);rw [zrep_take zs _ _ hle] at htake
 have hsz:cells.size=c.toNat*Te.size:=by rw [← Array.length_toList,hfull.length,zrep_len,hzl]
 obtain ⟨hsr,hE⟩:=hs.sr.alloc id Te.size e (rest:=cells.toList.drop (l.toNat*zs.length)) (ones_zrep (zcells_ones hz) l.toNat) htake;rw [List.take_append_drop,Array.toArray_toList] at hsr hE;refine ⟨_,.ar id μ.nx Te.size 0 l.toNat,_,_,_,by simp only [execOp,hop,hx1,hy1,Sem.run_bind,hrun,Result.andThen_ok,Sem.run_pure],hsr,hE,.inl ⟨some w.heap.size,by simp [Mu.set],.inr ⟨w.heap.size,c.toNat,cells,e,rfl,rfl,hle,by simp only [maxLen]; omega,Row.alloc w cells e,by omega⟩⟩,h μ.nx⟩
structure Src (P:Program) (w:World) (xt:TypeId) (x:Value) (size m:Nat) (news:List Value):Prop where
 int:(∃ e,∀ w',(underlying xt).run P w'=.ok (.slice e) w')∨∀ w',(underlying xt).run P w'=.ok .string w'
 len:∀ w',(Builtin.lenOf x).run P w'=.ok m w'
 cells:∀ w':World,w'.heap=w.heap→(Builtin.firstCells size m x).run P w'=.ok news.toArray w'
 hl:news.length=m*size
theorem run_append_inO {t xt ty' e:TypeId} {T Te:TyI} (hT:ty P t=some T) (hd:T.desc=.slice e) (hTe:ty P e=some Te) {b off n cap m:Nat} {cur:Array Value} {x:Value} {news:List Value}
  (hr:Row w b cur e) (hsrc:Src P w xt x Te.size m news) (h1:∀ v∈news,v.oneCell'=true) (hcap:off+cap*Te.size=cur.size) (hroom:n+m≤cap) :
  ∃ w' cur',(Builtin.append_ #[t,xt] ty' #[.slice (some ⟨b,off,none⟩) n cap,x]).run P w=.ok (.slice (some ⟨b,off,none⟩) (n+m) cap) w'∧Row w' b cur' e ∧
   cur'.toList=cur.toList.take (off+n*Te.size)++news++cur.toList.drop (off+n*Te.size+news.length)∧Same w w'∧w'.heap.size=w.heap.size∧∀ b',b'≠b→w'.heap[b']?=w.heap[b']?:=by
 have hfit:off+n*Te.size+0+news.length≤cur.size:=by
  rw [hsrc.hl,← hcap,Nat.add_zero,Nat.add_assoc,← Nat.add_mul];exact Nat.add_le_add_left (Nat.mul_le_mul_right _ hroom) _
 obtain ⟨w',cur',h2,h3,h4,h5,h6,h7⟩:=storeCells_row (P:=P) b (off+n*Te.size) e news 0 cur w hr hfit h1;refine ⟨w',cur',?_,h3,by simpa using h4,h5,h6,h7⟩;have hu:=ty_under hT;rw [hd] at hu
 have hadd:(⟨b,off,none⟩:Addr).add (n*Te.size)=⟨b,off+n*Te.size,none⟩:=by rw [Addr.add_lit]
 rcases hsrc.int with ⟨e',hx⟩ | hx
 ·simp [Builtin.append_,hu,hx,ty_sizeOf hTe,hsrc.len,hroom,hsrc.cells w rfl,h2,hadd]
 simp [Builtin.append_,hu,hx,ty_sizeOf hTe,hsrc.len,hroom,hsrc.cells w rfl,h2,hadd]
theorem run_append_out {t xt ty' e:TypeId} {T Te:TyI} (hT:ty P t=some T) (hd:T.desc=.slice e) (hTe:ty P e=some Te) {base:Option Addr} {n cap m:Nat} {x:Value} {olds news:List Value}
  (hold:∀ w':World,w'.heap=w.heap→(Builtin.firstCells Te.size n (.slice base n cap)).run P w'=.ok olds.toArray w') (hol:olds.length=n*Te.size) (hsrc:Src P w xt x Te.size m news)
  (hz:Te.zero.cells.size=Te.size) (hroom:cap<n+m) (hbytes:(n+m)*Te.bytes≤140737488355328) (h63:n+m≤maxLen) :
  ∃ w' newCap rest,(Builtin.append_ #[t,xt] ty' #[.slice base n cap,x]).run P w=.ok (.slice (some ⟨w.heap.size,0,none⟩) (n+m) newCap) w' ∧
   Row w' w.heap.size (olds++news++rest).toArray e∧(olds++news++rest).length=newCap*Te.size∧n+m≤newCap∧newCap≤maxLen∧Grow w w':=by
 have hu:=ty_under hT;rw [hd] at hu;have hge:=grownCap_ge w (n+m) cap e;have hlem:=grownCap_le_maxLen w (n+m) cap e h63;have hgc:(Question.appendCap (n+m) cap e).cut (w.tape w.drawn (.appendCap (n+m) cap e))=grownCap w (n+m) cap e:=rfl
 refine ⟨w.drew.alloc (.cells (olds++news++(Builtin.zeroCells Te.zero.cells (grownCap w (n+m) cap e - (n+m))).toList).toArray e),grownCap w (n+m) cap e,(Builtin.zeroCells Te.zero.cells (grownCap w (n+m) cap e - (n+m))).toList,?_,
  Row.alloc w.drew _ e,?_,hge,hlem,(Grow.drew1 w (w.drawn+1)).trans (Grow.alloc w.drew _)⟩
 ·obtain ⟨i,hi,hi1,hi2,hi3⟩:=ty_info hTe w
  obtain ⟨i',hi',hi1',hi2',hi3'⟩:=ty_info hTe w.drew
  have hn:¬ (n+m≤cap):=by omega
  have h63':¬ (9223372036854775807<((n:Int)+(m:Int))):=by simp only [maxLen] at h63; omega
  have h48:¬ (281474976710656<Builtin.nextslicecap (n+m) cap*Te.bytes):=by
   have:=growslice_fits hroom hbytes;omega
  have ho:=hold w.drew rfl;have hs:=hsrc.cells w.drew rfl
  rcases hsrc.int with ⟨e',hx⟩ | hx
  ·simp [Builtin.append_,hu,hx,ty_sizeOf hTe,ty_zero hTe,hsrc.len,hn,hi,hi2,hi',h63',h48,Question.forced,ho,hs,newRow,grownCap]
   congr 2
   apply Array.ext';simp [List.append_assoc]
  simp [Builtin.append_,hu,hx,ty_sizeOf hTe,ty_zero hTe,hsrc.len,hn,hi,hi2,hi',h63',h48,Question.forced,ho,hs,newRow,grownCap]
  congr 2
  apply Array.ext';simp [List.append_assoc]
 simp only [List.length_append,Array.length_toList,size_zeroCells,hz,hol,hsrc.hl,← Nat.add_mul]
 congr 1
 omega
def asrc (P:Program) (s:AS) (xt:TypeId) (k:Nat) (x:HV) (R:Nat→List HV→Prop):Prop :=
 match ty P xt,x with
 | some ⟨.slice _,_,_,_⟩,.sl k' m cs=>k'=k∧R m cs
 | some ⟨.slice _,_,_,_⟩,.ar id ver k' off m=>match hget s.heap id with
  | some (ver',.arr _ _ cs)=>ver=ver'∧k'=k∧off+m*k≤cs.length∧R m ((cs.drop off).take (m*k))
  | _=>False
 | some ⟨.slice _,_,_,_⟩,.v (.slice none 0 0)=>R 0 []
 | some ⟨.string,_,_,_⟩,.str l=>k=1∧R l.length (l.map fun b=>.int .u8 b.toNat)
 | _,_=>False
theorem Seg.heap {w w':World} (h:w'.heap=w.heap) {b off:Nat} {vs:List Value} (hs:Seg w b off vs):Seg w' b off vs:=by
 obtain ⟨cur,e,fr,pre,post,h1,h2,h3⟩:=hs;exact ⟨cur,e,fr,pre,post,by rw [h]; exact h1,h2,h3⟩
theorem first_seg {b off n cap k:Nat} {vs:List Value} (hs:Seg w b off vs) (hl:vs.length=n*k) (w':World) (hh:w'.heap=w.heap) :
  (Builtin.firstCells k n (.slice (some ⟨b,off,none⟩) n cap)).run P w'=.ok vs.toArray w':=by
 have:=run_loadCells_seg (P:=P) (hs.heap hh) 0 (n*k) (by omega);rw [Nat.add_zero,List.drop_zero,List.take_of_length_le (by omega)] at this
 simpa [Builtin.firstCells] using this
theorem ones_bytes (l:List UInt8):ones (l.map fun b=>HV.int .u8 b.toNat):=fun c hc=>by
 obtain ⟨b,_,rfl⟩:=List.mem_map.1 hc; rfl
theorem repL_bytes (l:List UInt8):RepL w μ (l.map fun b=>HV.int .u8 b.toNat) (l.map fun b=>Value.int .u8 b.toNat):=by
 induction l with
 | nil=>rfl
 | cons b l ih =>
  refine ⟨_,_,rfl,⟨rfl,?_⟩,ih⟩;have:=b.toNat_lt;simp [Lit.wf,IntKind.min,IntKind.max,IntKind.signed,IntKind.bits];omega
theorem asrc_spec (hs:SRel ro N B μ s a w) {xt:TypeId} {k:Nat} {x:HV} {v:Value} {R:Nat→List HV→Prop} (hx:Rep w μ x v) (h:asrc P s xt k x R) :
  ∃ m cs vs,R m cs∧ones cs∧RepL w μ cs vs∧Src P w xt v k m vs:=by
 unfold asrc at h;split at h
 ·rename_i e sz by' z k' m cs hT
  obtain ⟨rfl,hR⟩:=h;have hu:∀ w',(underlying xt).run P w'=.ok (.slice e) w':=ty_under hT;obtain ⟨h1,hl,_,⟨rfl,a0,rfl⟩ | ⟨b,off,cap,vs,rfl,_,_,hseg,hr⟩⟩:=hx
  ·have hcs:cs=[]:=List.eq_nil_of_length_eq_zero (by simpa using hl)
   subst hcs;exact ⟨0,[],[],hR,ones.nil,rfl,.inl ⟨e,hu⟩,fun _=>rfl,fun _ _=>by cases a0 <;> simp [Builtin.firstCells,loadCells,loadCellsFrom],by simp⟩
  have hvl:vs.length=m*k':=by rw [hr.length,hl]
  exact ⟨m,cs,vs,hR,h1,hr,.inl ⟨e,hu⟩,fun _=>rfl,fun w' hw'=>first_seg hseg hvl w' hw',hvl⟩
 ·rename_i e sz by' z id ver k' off m hT
  have hu:∀ w',(underlying xt).run P w'=.ok (.slice e) w':=ty_under hT;split at h
  ·rename_i ver' k2 e2 cs hg
   obtain ⟨rfl,rfl,hlen,hR⟩:=h;obtain ⟨l,hl,hor⟩:=hs.sr.has id _ _ hg
   rcases hx with ⟨l',hl',hx⟩ | ⟨hd,_⟩
   ·rw [hl] at hl'
    cases hl'
    rcases hx with ⟨rfl,rfl,rfl,rfl⟩ | ⟨b,cap,cur,e3,rfl,rfl,_⟩
    ·refine ⟨0,[],[],by simpa using hR,ones.nil,rfl,.inl ⟨e,hu⟩,fun _=>rfl,fun _ _=>rfl,by simp⟩
    obtain ⟨h1,vs,hseg,hr⟩:=hor.seg;have hvl:=hr.length;have hseg':=(hseg.drop off (by omega)).take (m*k');rw [Nat.zero_add] at hseg'
    have hl2:((vs.drop off).take (m*k')).length=m*k':=by simp; omega
    exact ⟨m,_,(vs.drop off).take (m*k'),hR,(h1.drop off).take _,(hr.drop off).take _,.inl ⟨e,hu⟩,fun _=>rfl,fun w' hw'=>first_seg hseg' hl2 w' hw',hl2⟩
   exact absurd hl (hd.2 l)
  exact h.elim
 ·rename_i e sz by' z hT
  have hu:∀ w',(underlying xt).run P w'=.ok (.slice e) w':=ty_under hT;obtain rfl:v=.slice none 0 0:=hx;exact ⟨0,[],[],h,ones.nil,rfl,.inl ⟨e,hu⟩,fun _=>rfl,fun _ _=>rfl,by simp⟩
 ·rename_i sz by' z l hT
  have hu:∀ w',(underlying xt).run P w'=.ok .string w':=ty_under hT;obtain ⟨rfl,hR⟩:=h;obtain ⟨rfl,hlen⟩:=hx;refine ⟨l.length,_,_,hR,ones_bytes l,repL_bytes l,.inr hu,fun _=>?_,fun w' _=>?_,by simp⟩
  ·show Result.ok (⟨l.toArray⟩:ByteArray).size _=_
   congr 1
  simp only [Builtin.firstCells,Sem.run_pure]
  congr 1
  have:(⟨l.toArray⟩:ByteArray).extract 0 l.length=⟨l.toArray⟩:=by
   apply WideShapes.bytes_inj;simp
  rw [this];simp
 exact h.elim
def abase (s:AS) (k:Nat) (e:TypeId) (x:HV) (R:Nat→List HV→Prop):Prop :=
 match x with
 | .v (.slice none 0 0)=>R 0 []
 | .ar id ver k' off n=>match hget s.heap id with
  | some (ver',.arr _ e' cs)=>ver=ver'∧k'=k∧e'=e∧off=0∧n*k≤cs.length∧R n (cs.take (n*k))
  | _=>False
 | _=>False
def baseId (x:HV) (id:Nat):Nat:=match x with
 | .ar i _ _ _ _=>i
 | _=>id
theorem AOp.appendX {o:Oper} {K:AS→Prop} {t xt e:TypeId} {T Te:TyI} {x y:Operand} {hy:HV} {n m off:Nat} {pcs cs ds:List HV} (i:Nat)
  (hop:o.op=.call { callee:=.builtin .append,args:=#[x,y],argTypes:=#[t,xt] }) (hN:okd N o.dst=true) (hT:ty P t=some T) (hd:T.desc=.slice e) (hTe:ty P e=some Te)
  (hz:(zcells Te.zero).any (fun zs=>zs.length == Te.size)=true) (hey:s.ev y=some hy) (hsrc:asrc P s xt Te.size hy fun m' ds'=>m'=m∧ds'=ds)
  (hbytes:(n+m)*Te.bytes≤140737488355328) (h63:n+m≤maxLen)
  (hbase:∀ (B:Nat) (μ:Mu) (a:Act) (w:World),SRel ro N B μ s a w→∃ base cap us,a.eval x=.slice base n cap∧RepL w μ cs us∧ones cs∧us.length=n*Te.size ∧
   ((cap=0∧n=0∧(m=0→base=none))∨∃ b cur pre,base=some ⟨b,off,none⟩∧n≤cap∧cap≤maxLen∧Row w b cur e∧off+cap*Te.size=cur.size∧cur.toList.take (off+n*Te.size)=pre++us∧RepL w μ pcs pre∧ones pcs∧pre.length=off∧∃ ver,μ.loc i=some (ver,some b)))
  (hk1:∀ v,K (({ s with heap:=hset s.heap i v (.arr Te.size e (pcs++(cs++ds))) }:AS).put o.dst (.ar i v Te.size off (n+m))))
  (hk2:∀ v,K (({ s with heap:=hset s.heap i v (.arr Te.size e (cs++ds)) }:AS).put o.dst (.ar i v Te.size 0 (n+m)))):AOp P ro N o K s:=by
 refine AOp.value (fun c e=>by rw [hop] at e; cases e) hN fun B μ a w hs=>?_;obtain ⟨m',ds',vs,⟨rfl,rfl⟩,hdone,hdr,hS⟩:=asrc_spec hs (hs.ev hey) hsrc
 have hzs:Te.zero.cells.size=Te.size:=by
  cases hzz:zcells Te.zero with
  | none=>rw [hzz] at hz; simp at hz
  | some zs =>
   rw [hzz] at hz;have:=(zcells_rep (w:=w) (μ:=μ) hzz).length;simp at hz;rw [← Array.length_toList,this,hz]
 have hrunC:∀ v' w',(Builtin.append_ #[t,xt] o.type #[a.eval x,a.eval y]).run P w=.ok v' w'→(execOp a.eval o).run P w=.ok (.value v') w':=fun v' w' hv=>by
  simp only [execOp,hop,resolve,invoke,builtin,Sem.run_bind,Sem.run_pure,Result.andThen_ok,List.map_toArray,List.map_cons,List.map_nil,hv]
 obtain ⟨base,cap,us,hex',hur,hcone,hul,hcase⟩:=hbase B μ a w hs;by_cases hroom:n+m'≤cap
 ·rcases hcase with ⟨rfl,rfl,hnone⟩ | ⟨b,cur,pre,rfl,hnc,hcm,hrow,hsz,htake,hpr,hpo,hpl,ver0,hloc⟩
  ·have hm0:m'=0:=by omega
   obtain rfl:=hnone hm0;subst hm0
   have hrun:(Builtin.append_ #[t,xt] o.type #[a.eval x,a.eval y]).run P w=.ok (.slice none 0 0) w:=by
    have hu:=ty_under hT;rw [hd] at hu;have hc:=hS.cells w rfl;rw [hex']
    rcases hS.int with ⟨e',hx'⟩ | hx'
    ·simp [Builtin.append_,hu,hx',ty_sizeOf hTe,hS.len,hc]
    simp [Builtin.append_,hu,hx',ty_sizeOf hTe,hS.len,hc]
   have hcs0:cs=[]:=List.eq_nil_of_length_eq_zero (by rw [← hur.length,hul]; simp);have hds0:ds'=[]:=List.eq_nil_of_length_eq_zero (by rw [← hdr.length,hS.hl]; simp);have hsame:∀ b,b<w.heap.size→(∀ ver,μ.loc i≠some (ver,some b))→w.heap[b]?=w.heap[b]?:=fun _ _ _=>rfl
   refine ⟨_,.ar i μ.nx Te.size 0 (0+0),μ.set i none,w,_,hrunC _ _ hrun,hs.sr.repl i none (.arr Te.size e (cs++ds')) (Same.refl w) (Nat.le_refl _) hsame (fun b hb=>by cases hb) ?_,
    Evo.repl hs.sr i none (Same.refl w) (Nat.le_refl _) hsame (fun b hb=>by cases hb),.inl ⟨none,by simp [Mu.set],.inl ⟨rfl,rfl,rfl,rfl⟩⟩,hk2 μ.nx⟩
   show cs++ds'=[];rw [hcs0,hds0]; rfl
  obtain ⟨w',cur',h1,h2,h3,h4,h5,h6⟩:=run_append_inO (P:=P) (ty':=o.type) hT hd hTe hrow hS (RepL.oneCells hdone hdr) hsz hroom;have hold:∀ b',b'<w.heap.size→(∀ ver,μ.loc i≠some (ver,some b'))→w'.heap[b']?=w.heap[b']?:=fun b' _ hno=>h6 b' fun e=>hno ver0 (e ▸ hloc)
  have hl':∀ b',some b=some b'→w.heap.size≤b'∨∃ ver,μ.loc i=some (ver,some b'):=fun b' e=>by cases e; exact .inr ⟨ver0,hloc⟩
  have hE:=Evo.repl hs.sr i (some b) h4 (by omega) hold hl'
  have hcsz:cur'.size=cur.size:=by
   have hfit:off+n*Te.size+vs.length≤cur.size:=by
    rw [hS.hl,← hsz,Nat.add_assoc,← Nat.add_mul];exact Nat.add_le_add_left (Nat.mul_le_mul_right _ hroom) _
   rw [← Array.length_toList,h3];simp only [List.length_append,List.length_take,List.length_drop,Array.length_toList];omega
  refine ⟨_,.ar i μ.nx Te.size off (n+m'),μ.set i (some b),w',_,hrunC _ _ (by rw [hex']; exact h1),hs.sr.repl i (some b) (.arr Te.size e (pcs++(cs++ds'))) h4 (by omega) hold hl' ?_,hE,
   .inl ⟨some b,by simp [Mu.set],.inr ⟨b,cap,cur',e,rfl,rfl,hroom,hcm,h2,by omega⟩⟩,hk1 μ.nx⟩
  refine ⟨hpo.append (hcone.append hdone),cur',pre++(us++vs),cur.toList.drop (off+n*Te.size+vs.length),h2,?_,(RepL.evo hE hs.sr.ok _ _ hpr).append ((RepL.evo hE hs.sr.ok _ _ hur).append (RepL.evo hE hs.sr.ok _ _ hdr))⟩;rw [h3,htake,List.append_assoc,List.append_assoc,List.append_assoc,List.append_assoc]
 have hold0:∀ w':World,w'.heap=w.heap→(Builtin.firstCells Te.size n (.slice base n cap)).run P w'=.ok us.toArray w':=by
  intro w' hw'
  rcases hcase with ⟨rfl,rfl,_⟩ | ⟨b,cur,pre,rfl,hnc,hcm,⟨lo,hi,hh,_⟩,hsz,htake,_,_,hpl,_⟩
  ·have:us=[]:=List.eq_nil_of_length_eq_zero (by rw [hul]; simp)
   subst this
   cases base <;> simp [Builtin.firstCells,loadCells,loadCellsFrom]
  exact first_seg ⟨cur,e,(lo,hi),pre,cur.toList.drop (off+n*Te.size),hh,by rw [← htake,List.take_append_drop],hpl⟩ hul w' hw'
 obtain ⟨w',newCap,rest,h1,h2,h3,h4,h5,g⟩:=run_append_out (P:=P) (ty':=o.type) hT hd hTe hold0 hul hS hzs (by omega) hbytes h63;have hold:∀ b',b'<w.heap.size→(∀ ver,μ.loc i≠some (ver,some b'))→w'.heap[b']?=w.heap[b']?:=fun b' hb' _=>g.old b' hb'
 have hl':∀ b',some w.heap.size=some b'→w.heap.size≤b'∨∃ ver,μ.loc i=some (ver,some b'):=fun b' e=>by cases e; exact .inl (Nat.le_refl _)
 have hE:=Evo.repl hs.sr i (some w.heap.size) g.toSame g.size hold hl'
 refine ⟨_,.ar i μ.nx Te.size 0 (n+m'),μ.set i (some w.heap.size),w',_,hrunC _ _ (by rw [hex']; exact h1),hs.sr.repl i (some w.heap.size) (.arr Te.size e (cs++ds')) g.toSame g.size hold hl' ?_,hE,
  .inl ⟨some w.heap.size,by simp [Mu.set],.inr ⟨w.heap.size,newCap,_,e,rfl,rfl,h4,h5,h2,by simp only [List.size_toArray]; omega⟩⟩,hk2 μ.nx⟩
 exact ⟨hcone.append hdone,_,us++vs,rest,h2,rfl,(RepL.evo hE hs.sr.ok _ _ hur).append (RepL.evo hE hs.sr.ok _ _ hdr)⟩
theorem AOp.append {o:Oper} {K:AS→Prop} {t xt e:TypeId} {T Te:TyI} {x y:Operand} {hx hy:HV} {n m:Nat} {cs ds:List HV} (id:Nat)
  (hop:o.op=.call { callee:=.builtin .append,args:=#[x,y],argTypes:=#[t,xt] }) (hN:okd N o.dst=true) (hT:ty P t=some T) (hd:T.desc=.slice e) (hTe:ty P e=some Te)
  (hz:(zcells Te.zero).any (fun zs=>zs.length == Te.size)=true) (hex:s.ev x=some hx) (hey:s.ev y=some hy)
  (hb:abase s Te.size e hx fun n' cs'=>n'=n∧cs'=cs) (hsrc:asrc P s xt Te.size hy fun m' ds'=>m'=m∧ds'=ds)
  (hbytes:(n+m)*Te.bytes≤140737488355328) (h63:n+m≤maxLen)
  (h:∀ ver,K (({ s with heap:=hset s.heap (baseId hx id) ver (.arr Te.size e (cs++ds)) }:AS).put o.dst (.ar (baseId hx id) ver Te.size 0 (n+m)))):AOp P ro N o K s:=by
 refine AOp.appendX (off:=0) (pcs:=[]) (baseId hx id) hop hN hT hd hTe hz hey hsrc hbytes h63 (fun B μ a w hs=>?_) h h;unfold abase at hb;split at hb
 ·obtain ⟨rfl,rfl⟩:=hb
  exact ⟨none,0,[],hs.ev hex,rfl,ones.nil,by simp,.inl ⟨rfl,rfl,fun _=>rfl⟩⟩
 ·rename_i i ver k' off n'
  split at hb
  ·rename_i ver' k2 e' xs hg
   obtain ⟨rfl,rfl,rfl,rfl,hlen,rfl,rfl⟩:=hb;obtain ⟨l,hl,hor⟩:=hs.sr.has i _ _ hg
   rcases hs.ev hex with ⟨l',hl',hx⟩ | ⟨hdd,_⟩
   ·rw [hl] at hl'
    cases hl'
    rcases hx with ⟨rfl,he,rfl,_⟩ | ⟨b,cap,cur,e3,rfl,he,hnc,hcm,hrow,hsz⟩
    ·have hxs:xs=[]:=hor
     exact ⟨none,0,[],he,by simp [hxs,RepL],by rw [hxs]; simp [ones],by simp,.inl ⟨rfl,rfl,fun _=>rfl⟩⟩
    obtain ⟨h1,cur',us,rest,hrow',hcl,hrl⟩:=hor;obtain ⟨rfl,rfl⟩:=hrow.inj hrow';have hul:=hrl.length;refine ⟨some ⟨b,0,none⟩,cap,us.take (n'*Te.size),he,hrl.take _,h1.take _,by simp; omega,.inr ⟨b,cur,[],rfl,hnc,hcm,hrow,hsz,?_,rfl,ones.nil,rfl,ver,hl⟩⟩;rw [hcl,Nat.zero_add,List.nil_append,List.take_append_of_le_length (by omega)]
   exact absurd hl (hdd.2 l)
  exact hb.elim
 exact hb.elim
end
def placesOf (P:Program):List Field→Option (List (Nat × Nat))
 | []=>some []
 | f::fs=>match ty P f.type,placesOf P fs with
  | some T,some l=>some ((f.offset,T.size)::l)
  | _,_=>none
theorem placesOf_spec {P:Program}:∀ {fs:List Field} {l:List (Nat × Nat)},placesOf P fs=some l→fs.mapM (fun f=>(P.info? f.type).map fun i=>(f.offset,i.size))=some l
 | [],l,h=>by simp [placesOf] at h; subst h; rfl
 | f::fs,l,h=>by
  simp only [placesOf] at h;split at h
  ·rename_i T l' hT hl
   cases h;obtain ⟨_,i,hi,hsz,_⟩:=ty_spec hT;simp [List.mapM_cons,hi,placesOf_spec hl,hsz]
  cases h
def abuild (P:Program) (s:AS) (t:TypeId) (ps:List (Nat × Operand)) (R:HV→Prop):Prop :=
 match ty P t with
 | some ⟨.struct fs,_,_,z⟩=>match placesOf P fs.toList,zcells z,aparts s ps with
  | some pl,some zs,some qs=>match afill (fun i=>pl[i]?) qs zs with
   | some cs=>R (.agg cs)
   | none=>False
  | _,_,_=>False
 | some ⟨.array _ e,_,_,z⟩=>match ty P e,zcells z,aparts s ps with
  | some E,some zs,some qs=>match afill (fun i=>some (i*E.size,E.size)) qs zs with
   | some cs=>R (.agg cs)
   | none=>False
  | _,_,_=>False
 | _=>False
section
variable {P:Program} {ro:Option Nat} {N B:Nat} {s:AS} {μ μ':Mu} {a:Act} {w w':World}
theorem AOp.build {o:Oper} {K:AS→Prop} {t:TypeId} {ps:Array (Nat × Operand)} (hop:o.op=.build t ps) (hN:okd N o.dst=true) (h:abuild P s t ps.toList fun r=>K (s.put o.dst r)):AOp P ro N o K s:=by
 refine AOp.value (fun c e=>by rw [hop] at e; cases e) hN fun B μ a w hs=>?_;unfold abuild at h;split at h
 ·rename_i fs sz by' z hT
  split at h
  ·rename_i pl zs qs hpl hzs hqs
   split at h
   ·rename_i cs hcs
    obtain ⟨hu,it,hit,_,_,hz⟩:=ty_spec hT;obtain ⟨hl,hp⟩:=aparts_spec hs hqs;have hz0:=zcells_rep (w:=w) (μ:=μ) hzs;obtain ⟨cells,h1,h2,h3⟩:=fill_rep (fun i=>pl[i]?) hl hp (zcells_ones hzs) hz0 hcs
    have hb:P.built t (ps.map fun (i,x)=>(i,a.eval x)).toList=some cells:=by
     simp only [Program.built,hit,hu,hz,placesOf_spec hpl];rw [← h1]
     congr 1
     ·funext i; simp
     simp
    refine ⟨.agg cells,.agg cs,μ,w,s.heap,?_,hs.sr,Evo.refl w μ,⟨h2,cells.toList,rfl,h3⟩,h⟩;simp only [execOp,hop,Sem.run_bind,run_build w t _ cells hb,Result.andThen_ok];rfl
   exact h.elim
  exact h.elim
 ·rename_i n e sz by' z hT
  split at h
  ·rename_i E zs qs hE hzs hqs
   split at h
   ·rename_i cs hcs
    obtain ⟨hl,hp⟩:=aparts_spec hs hqs;have hz0:=zcells_rep (w:=w) (μ:=μ) hzs;obtain ⟨cells,h1,h2,h3⟩:=fill_rep (fun i=>some (i*E.size,E.size)) hl hp (zcells_ones hzs) hz0 hcs;have htd:P.underlying t=some (.array n e):=(ty_spec hT).1;refine ⟨.agg cells,.agg cs,μ,w,s.heap,?_,hs.sr,Evo.refl w μ,⟨h2,cells.toList,rfl,h3⟩,h⟩
    have h4:Instr.fill (fun i=>some (i*E.size,E.size)) z.cells (ps.map fun (i,x)=>(i,a.eval x)).toList=some cells:=by
     rw [← h1]
     congr 1
     simp
    have hb:(Instr.build t (ps.map fun (i,x)=>(i,a.eval x))).run P w=.ok (.agg cells) w:=by
     simp only [Instr.build,Sem.run_bind,ty_zero hT,Result.andThen_ok,run_underlying htd,ty_sizeOf hE,h4];rfl
    simp only [execOp,hop,Sem.run_bind,hb,Result.andThen_ok];rfl
   exact h.elim
  exact h.elim
 exact h.elim
end
section
variable {P:Program} {ro:Option Nat} {N B:Nat} {s:AS} {μ μ':Mu} {a:Act} {w w':World}
theorem zeroCells_one (v:Value) (n:Nat):(Builtin.zeroCells #[v] n).toList=List.replicate n v:=by
 apply List.ext_getElem
 ·simp [Builtin.zeroCells]
 intro i h1 h2;simp [Builtin.zeroCells,Nat.mod_one]
theorem SR.same {H:Heap} (h:SR w μ H) {id ver:Nat} {o:AObj} (hg:hget H id=some (ver,o)):SR w μ (hset H id ver o):=by
 refine ⟨h.ok,fun j v o' ho=>?_,fun j x hx=>?_,h.inj,h.held⟩
 ·rw [hget_hset] at ho
  split at ho
  ·rename_i e; subst e; cases ho; exact h.has _ _ _ hg
  exact h.has _ _ _ ho
 rw [hget_hset];split
 ·exact ⟨_,rfl⟩
 exact h.only _ _ hx
theorem repL_replicate {z:HV} {v:Value} (h:Rep w μ z v):∀ n,RepL w μ (List.replicate n z) (List.replicate n v)
 | 0=>rfl
 | n+1=>⟨v,List.replicate n v,rfl,h,repL_replicate h n⟩
theorem AOp.clear {o:Oper} {K:AS→Prop} {t e e':TypeId} {T Te:TyI} {x:Operand} {id ver k k' off n:Nat} {xs:List HV} {z:HV} (hop:o.op=.call { callee:=.builtin .clear,args:=#[x],argTypes:=#[t] }) (hN:okd N o.dst=true)
  (hT:ty P t=some T) (hd:T.desc=.slice e) (hTe:ty P e=some Te) (hz:zcells Te.zero=some [z]) (hx:s.ev x=some (.ar id ver k off n)) (hg:hget s.heap id=some (ver,.arr k' e' xs))
  (hfit:off+n≤xs.length) (h:K (({ s with heap:=hset s.heap id ver (.arr k' e' (xs.take off++List.replicate n z++xs.drop (off+n))) }:AS).put o.dst (.tup []))):AOp P ro N o K s:=by
 refine AOp.value (fun c e=>by rw [hop] at e; cases e) hN fun B μ a w hs=>?_
 have hu:(underlying t).run P w=.ok (.slice e) w:=by rw [ty_under hT,hd]
 have hzr:=zcells_rep (w:=w) (μ:=μ) hz;obtain ⟨lo,hl,hor⟩:=hs.sr.has id _ _ hg
 have hrun:∀ w',(Builtin.clear_ #[t] o.type #[a.eval x]).run P w=.ok (.tuple #[]) w'→(execOp a.eval o).run P w=.ok (.value (.tuple #[])) w':=fun w' hv=>by
  simp [execOp,hop,resolve,invoke,builtin,hv]
 have hz0:=ty_zero hTe w
 have hz1:∃ v,Te.zero.cells = #[v]∧Rep w μ z v:=by
  obtain ⟨v,vs,e1,h1,h2⟩:=hzr;cases h2;exact ⟨v,Array.toList_inj.1 (by simpa using e1),h1⟩
 obtain ⟨v,hv,hvr⟩:=hz1;have hzone:z.one=true:=zcells_ones hz z (List.mem_singleton.2 rfl);by_cases hn0:n=0
 ·subst hn0
  have hsame:xs.take off++List.replicate 0 z++xs.drop (off+0)=xs:=by simp
  rw [hsame] at h;refine ⟨.tuple #[],.tup [],μ,w,_,hrun w ?_,hs.sr.same hg,Evo.refl w μ,⟨[],rfl,rfl⟩,h⟩
  rcases hs.ev hx with ⟨l,hl',⟨rfl,he,hn,hoff⟩ | ⟨b,cap,cur,ec,rfl,he,hnc,hcm,hrow,hsz⟩⟩ | ⟨hd',_⟩
  ·simp [Builtin.clear_,hu,he]
  ·simp [Builtin.clear_,hu,he]
  exact absurd hl (hd'.2 lo)
 rcases hs.ev hx with ⟨l,hl',⟨rfl,he,hn,hoff⟩ | ⟨b,cap,cur,ec,rfl,he,hnc,hcm,hrow,hsz⟩⟩ | ⟨hd',_⟩
 ·exact absurd hn hn0
 ·rw [hl] at hl'
  cases hl';obtain ⟨h0,cur',vs,rest,hrow',hcl,hrl⟩:=hor;have hvl:=hrl.length
  have hcurl:cur'.toList.length=vs.length+rest.length:=by rw [hcl,List.length_append]
  have hrep:RepL w μ (List.replicate n z) (List.replicate n v):=repL_replicate hvr n;obtain ⟨w',cur2,h1,h2,h3,h4,h5,h6⟩:=storeCells_row (P:=P) b off e' (List.replicate n v) 0 cur' w hrow' (by rw [Array.length_toList] at hcurl; simp only [List.length_replicate]; omega) (RepL.oneCells (fun c hc=>by rw [List.eq_of_mem_replicate hc]; exact hzone) hrep)
  have hclen:cur2.size=cur'.size:=by
   rw [← Array.length_toList,h3];simp only [List.length_append,List.length_take,List.length_drop,Nat.add_zero,← Array.length_toList,List.length_replicate];omega
  obtain ⟨hsr,hE⟩:=hs.sr.updArr (cs':=xs.take off++List.replicate n z++xs.drop (off+n)) hg hl h4 h5 h6 hrow' h2 hclen fun E=>by
   have hrep':=RepL.evo E hs.sr.ok _ _ hrep;have hrl':=RepL.evo E hs.sr.ok _ _ hrl;refine ⟨((h0.take _).append (fun c hc=>by rw [List.eq_of_mem_replicate hc]; exact hzone)).append (h0.drop _),cur2,vs.take off++List.replicate n v++vs.drop (off+n),rest,h2,?_,((hrl'.take off).append hrep').append (hrl'.drop _)⟩;rw [h3,hcl,Nat.add_zero,List.length_replicate,List.take_append_of_le_length (by omega),List.drop_append_of_le_length (by omega)];simp
  refine ⟨.tuple #[],.tup [],μ,w',_,hrun w' ?_,hsr,hE,⟨[],rfl,rfl⟩,h⟩;obtain ⟨n',rfl⟩:∃ n',n=n'+1:=⟨n - 1,by omega⟩;simp [Builtin.clear_,hu,he,hz0,hv,zeroCells_one,h1]
 exact absurd hl (hd'.2 lo)
theorem asrc_first (hs:SRel ro N B μ s a w) {xt:TypeId} {k m:Nat} {x:HV} {v:Value} {cs:List HV} (hx:Rep w μ x v) (hst:∀ l,x ≠ .str l) (h:asrc P s xt k x fun m' cs'=>m'=m∧cs'=cs) :
  ∃ vs,ones cs∧RepL w μ cs vs∧vs.length=m*k∧(∀ w',(Builtin.lenOf v).run P w'=.ok m w')∧∀ q,q≤m→(Builtin.firstCells k q v).run P w=.ok (vs.take (q*k)).toArray w:=by
 unfold asrc at h;split at h
 ·rename_i e sz by' z k' m' cs' hT
  obtain ⟨rfl,rfl,rfl⟩:=h;obtain ⟨h1,hl,_,⟨rfl,a0,rfl⟩ | ⟨b,off,cap,vs,rfl,_,_,hseg,hr⟩⟩:=hx
  ·have hcs:cs'=[]:=List.eq_nil_of_length_eq_zero (by simpa using hl)
   subst hcs;refine ⟨[],ones.nil,rfl,by simp,fun _=>rfl,fun q hq=>?_⟩
   obtain rfl:q=0:=by omega
   cases a0 <;> simp [Builtin.firstCells,loadCells,loadCellsFrom]
  have hvl:vs.length=m'*k':=by rw [hr.length,hl]
  refine ⟨vs,h1,hr,hvl,fun _=>rfl,fun q hq=>?_⟩;have hq':q*k'≤m'*k':=Nat.mul_le_mul_right _ hq;have:=run_loadCells_seg (P:=P) hseg 0 (q*k') (by omega);rw [Nat.add_zero,List.drop_zero] at this
  simpa [Builtin.firstCells] using this
 ·rename_i e sz by' z id ver k' off m' hT
  split at h
  ·rename_i ver' k2 e2 cs' hg
   obtain ⟨rfl,rfl,hlen,rfl,rfl⟩:=h;obtain ⟨l,hl,hor⟩:=hs.sr.has id _ _ hg
   rcases hx with ⟨l',hl',hx⟩ | ⟨hd,_⟩
   ·rw [hl] at hl'
    cases hl'
    rcases hx with ⟨rfl,rfl,rfl,rfl⟩ | ⟨b,cap,cur,e3,rfl,rfl,_⟩
    ·refine ⟨[],by simp [ones.nil],by simp [RepL],by simp,fun _=>rfl,fun q hq=>?_⟩
     obtain rfl:q=0:=by omega
     simp [Builtin.firstCells]
    obtain ⟨h1,vs,hseg,hr⟩:=hor.seg;have hvl:=hr.length;have hseg':=(hseg.drop off (by omega)).take (m'*k');rw [Nat.zero_add] at hseg'
    have hl2:((vs.drop off).take (m'*k')).length=m'*k':=by simp; omega
    refine ⟨(vs.drop off).take (m'*k'),(h1.drop off).take _,(hr.drop off).take _,hl2,fun _=>rfl,fun q hq=>?_⟩;have hq':q*k'≤m'*k':=Nat.mul_le_mul_right _ hq;have:=run_loadCells_seg (P:=P) hseg' 0 (q*k') (by omega);rw [Nat.add_zero,List.drop_zero] at this
    simpa [Builtin.firstCells] using this
   exact absurd hl (hd.2 l)
  exact h.elim
 ·obtain rfl:v=.slice none 0 0:=hx
  obtain ⟨rfl,rfl⟩:=h;refine ⟨[],ones.nil,rfl,by simp,fun _=>rfl,fun q hq=>?_⟩
  obtain rfl:q=0:=by omega
  simp [Builtin.firstCells]
 ·rename_i l hT
  exact absurd rfl (hst l)
 exact h.elim
theorem AOp.copy {o:Oper} {K:AS→Prop} {t xt e e':TypeId} {T Te:TyI} {x y:Operand} {id ver k k' off n m:Nat} {xs ds:List HV} {hy:HV} (hop:o.op=.call { callee:=.builtin .copy,args:=#[x,y],argTypes:=#[t,xt] }) (hN:okd N o.dst=true)
  (hT:ty P t=some T) (hd:T.desc=.slice e) (hTe:ty P e=some Te) (hex:s.ev x=some (.ar id ver k off n)) (hey:s.ev y=some hy) (hst:∀ l,hy ≠ .str l) (hg:hget s.heap id=some (ver,.arr k' e' xs))
  (hsrc:asrc P s xt Te.size hy fun m' ds'=>m'=m∧ds'=ds) (hfit:off+n*Te.size≤xs.length)
  (h:K (({ s with heap:=hset s.heap id ver (.arr k' e' (xs.take off++ds.take (min m n*Te.size)++xs.drop (off+min m n*Te.size))) }:AS).put o.dst (.int .i64 ((min m n:Nat):Int)))):AOp P ro N o K s:=by
 refine AOp.value (fun c e=>by rw [hop] at e; cases e) hN fun B μ a w hs=>?_
 have hu:(underlying t).run P w=.ok (.slice e) w:=by rw [ty_under hT,hd]
 obtain ⟨vs,hone,hr,hvl,hlen,hfc⟩:=asrc_first hs (hs.ev hey) hst hsrc;have hsz:=ty_sizeOf hTe w;obtain ⟨lo,hl,hor⟩:=hs.sr.has id _ _ hg
 have hrun:∀ w',(Builtin.copy_ #[t,xt] o.type #[a.eval x,a.eval y]).run P w=.ok (goInt (min m n:Nat)) w'→(execOp a.eval o).run P w=.ok (.value (goInt (min m n:Nat))) w':=fun w' hv=>by
  simp [execOp,hop,resolve,invoke,builtin,hv]
 have hcnt:(Builtin.firstCells Te.size (min m n) (a.eval y)).run P w=.ok (vs.take (min m n*Te.size)).toArray w:=hfc _ (Nat.min_le_left _ _)
 rcases hs.ev hex with ⟨l,hl',⟨rfl,he,hn,hoff⟩ | ⟨b,cap,cur,ec,rfl,he,hnc,hcm,hrow,hsz'⟩⟩ | ⟨hd',_⟩
 ·subst hn hoff
  have hsame:xs.take 0++ds.take (min m 0*Te.size)++xs.drop (0+min m 0*Te.size)=xs:=by simp
  rw [hsame] at h;have e0:min m 0=0:=Nat.min_zero m;have e1:Nat.min m 0=0:=e0;rw [e0] at hcnt hrun h;refine ⟨goInt (0:Nat),.int .i64 ((0:Nat):Int),μ,w,_,hrun w ?_,hs.sr.same hg,Evo.refl w μ,⟨rfl,by decide⟩,h⟩;simp only [Nat.zero_mul,List.take_zero] at hcnt;simp [Builtin.copy_,hu,he,hlen,hsz,e1,hcnt]
 ·rw [hl] at hl'
  cases hl';obtain ⟨h0,cur',us,rest,hrow',hcl,hrl⟩:=hor;have hul:=hrl.length
  have hcurl:cur'.toList.length=us.length+rest.length:=by rw [hcl,List.length_append]
  have hqn:min m n*Te.size≤n*Te.size:=Nat.mul_le_mul_right _ (Nat.min_le_right _ _);have hqm:min m n*Te.size≤m*Te.size:=Nat.mul_le_mul_right _ (Nat.min_le_left _ _)
  have hql:(vs.take (min m n*Te.size)).length=min m n*Te.size:=by rw [List.length_take]; omega
  have hrq:RepL w μ (ds.take (min m n*Te.size)) (vs.take (min m n*Te.size)):=hr.take _;obtain ⟨w',cur2,h1,h2,h3,h4,h5,h6⟩:=storeCells_row (P:=P) b off e' (vs.take (min m n*Te.size)) 0 cur' w hrow' (by rw [Array.length_toList] at hcurl; rw [hql]; omega) (RepL.oneCells (hone.take _) hrq)
  have hclen:cur2.size=cur'.size:=by
   rw [← Array.length_toList,h3];simp only [List.length_append,List.length_take,List.length_drop,Nat.add_zero,← Array.length_toList] at hql ⊢;omega
  obtain ⟨hsr,hE⟩:=hs.sr.updArr (cs':=xs.take off++ds.take (min m n*Te.size)++xs.drop (off+min m n*Te.size)) hg hl h4 h5 h6 hrow' h2 hclen fun E=>by
   have hrep':=RepL.evo E hs.sr.ok _ _ hrq;have hrl':=RepL.evo E hs.sr.ok _ _ hrl;refine ⟨((h0.take _).append (hone.take _)).append (h0.drop _),cur2,us.take off++vs.take (min m n*Te.size)++us.drop (off+min m n*Te.size),rest,h2,?_,((hrl'.take off).append hrep').append (hrl'.drop _)⟩;rw [h3,hcl,Nat.add_zero,hql,List.take_append_of_le_length (by omega),List.drop_append_of_le_length (by omega)];simp
  refine ⟨goInt (min m n:Nat),.int .i64 ((min m n:Nat):Int),μ,w',_,hrun w' ?_,hsr,hE,⟨rfl,wf_len (Nat.le_trans (Nat.min_le_right _ _) (Nat.le_trans hnc hcm))⟩,h⟩;have e1:Nat.min m n=min m n:=rfl;simp [Builtin.copy_,hu,he,hlen,hsz,e1,hcnt,h1]
 exact absurd hl (hd'.2 lo)
end
section
open Go Go.MapKept
def alook (k:List UInt8):List (List UInt8 × HV)→Option HV
 | []=>none
 | (q,h)::es=>if k=q then some h else alook k es
def mput (k:List UInt8) (h:HV):List (List UInt8 × HV)→List (List UInt8 × HV)
 | []=>[(k,h)]
 | (q,x)::es=>if k=q then (q,h)::es else (q,x)::mput k h es
def mdel (k:List UInt8):List (List UInt8 × HV)→List (List UInt8 × HV)
 | []=>[]
 | (q,x)::es=>if k=q then es else (q,x)::mdel k es
theorem alook_none {k:List UInt8}:∀ {es:List (List UInt8 × HV)},alook k es=none↔k ∉ es.map (·.1)
 | []=>by simp [alook]
 | (q,h)::es=>by
  simp only [alook,List.map_cons,List.mem_cons,not_or];split
  ·rename_i e; simp [e]
  rename_i e; rw [alook_none (es:=es)]; exact ⟨fun h=>⟨e,h⟩,fun h=>h.2⟩
theorem mput_new {k:List UInt8} {h:HV}:∀ {es:List (List UInt8 × HV)},alook k es=none→mput k h es=es++[(k,h)]
 | [],_=>rfl
 | (q,x)::es,hn=>by
  simp only [alook] at hn;split at hn
  ·cases hn
  rename_i e; simp only [mput,if_neg e,mput_new hn,List.cons_append]
theorem mput_keys {k:List UInt8} {h:HV}:∀ {es:List (List UInt8 × HV)},alook k es≠none→(mput k h es).map (·.1)=es.map (·.1)
 | [],hn=>by simp [alook] at hn
 | (q,x)::es,hn=>by
  simp only [alook] at hn;simp only [mput];split
  ·rfl
  rename_i e; rw [if_neg e] at hn; simp [mput_keys hn]
theorem same_str (a b:List UInt8):Instr.sameNow .string (strV a) (strV b)=some (decide (a=b)):=by
 simp only [strV,Instr.sameNow]
 congr 1
 rw [Bool.eq_iff_iff];show (a.toArray == b.toArray)=true↔_;simp
theorem find_str {w:World} {μ:Mu} {k:List UInt8}:∀ {es:List (List UInt8 × HV)} {ents:List MapEntry} (i:Nat),ents.map (·.key)=es.map (fun x=>strV x.1)→RepL w μ (es.map (·.2)) (ents.map (·.val)) →
  (alook k es=none∧Instr.findNow .string (strV k) ents i=some none) ∨
  ∃ j e h,ents[j]?=some e∧e.key=strV k∧alook k es=some h∧Rep w μ h e.val∧Instr.findNow .string (strV k) ents i=some (some (i+j,e.val)) ∧
   (∀ h',mput k h' es=es.modify j fun x=>(x.1,h'))∧mdel k es=es.eraseIdx j∧j<es.length
 | [],[],i,_,_=>.inl ⟨rfl,rfl⟩
 | [],_::_,_,h,_=>by simp at h
 | _::_,[],_,h,_=>by simp at h
 | (q,h)::es,e::ents,i,hk,hr=>by
  obtain ⟨x,xs,e1,h1,h2⟩:=hr;simp only [List.map_cons,List.cons.injEq] at hk e1;obtain ⟨hk1,hk2⟩:=hk;obtain ⟨rfl,rfl⟩:=e1;by_cases hq:k=q
  ·right
   subst hq;refine ⟨0,e,h,rfl,hk1,by simp [alook],h1,?_,fun h'=>by simp [mput],by simp [mdel],by simp⟩;simp only [Instr.findNow,hk1,same_str,decide_true];rfl
  have hf:∀ r,Instr.findNow .string (strV k) ents (i+1)=r→Instr.findNow .string (strV k) (e::ents) i=r:=fun r hr=>by
   simp only [Instr.findNow,hk1,same_str,hq,decide_false,hr]
  rcases find_str (i+1) hk2 h2 with ⟨h3,h4⟩ | ⟨j,e',h',h3,h4,h5,h6,h7,h8,h9,h10⟩
  ·exact .inl ⟨by simp [alook,hq,h3],hf _ h4⟩
  right;refine ⟨j+1,e',h',h3,h4,by simp [alook,hq,h5],h6,hf _ (by rw [h7]; congr 3; omega),fun h'=>by simp [mput,hq,h8],by simp [mdel,hq,h9],by simpa using h10⟩
theorem modify_map_set {α β:Type} (g:α→β) (f:α→α) (v:β) (hf:∀ x,g (f x)=v):∀ (l:List α) (j:Nat),(l.modify j f).map g=(l.map g).set j v
 | [],j=>by simp
 | x::l,0=>by simp [hf]
 | x::l,j+1=>by simp [modify_map_set g f v hf l j]
theorem modify_map_same {α β:Type} (g:α→β) (f:α→α):∀ (l:List α) (j:Nat),(∀ x,l[j]?=some x→g (f x)=g x)→(l.modify j f).map g=l.map g
 | [],j,_=>by simp
 | x::l,0,h=>by simp [h x rfl]
 | x::l,j+1,h=>by simp [modify_map_same g f l j (fun y hy=>h y (by simpa using hy))]
def noIter (id:Nat):Heap→Prop
 | []=>True
 | (_,_,.iter m _ _ _)::H=>m≠id∧noIter id H
 | _::H=>noIter id H
theorem noIter_get {id:Nat}:∀ {H:Heap},noIter id H→∀ j v m mv seen cur,hget H j=some (v,.iter m mv seen cur)→m≠id
 | [],_,_,_,_,_,_,_,h=>by cases h
 | (i,w,o)::H,hn,j,v,m,mv,seen,cur,h=>by
  simp only [hget] at h;split at h
  ·cases h; exact hn.1
  refine noIter_get (H:=H) ?_ j v m mv seen cur h
  cases o with
  | iter=>exact hn.2
  | _=>exact hn
section
variable {P:Program} {ro:Option Nat} {N:Nat} {s:AS} {w w':World} {μ:Mu} {H:Heap}
theorem SR.upd (h:SR w μ H) {id ver b:Nat} {o o':AObj} (hg:hget H id=some (ver,o)) (hnr:∀ cur e,¬ Row w b cur e) (hl:μ.loc id=some (ver,some b))
    (hs:Same w w') (hsz:w'.heap.size=w.heap.size) (hold:∀ b',b'≠b→w'.heap[b']?=w.heap[b']?)
    (ho:Evo w μ w' μ→OR w' μ o' (some b))
    (hit:Evo w μ w' μ→∀ j v mver seen cur l,hget H j=some (v,.iter id mver seen cur)→OR w μ (.iter id mver seen cur) l→l≠some b→OR w' μ (.iter id mver seen cur) l) :
    SR w' μ (hset H id ver o')∧Evo w μ w' μ:=by
  have E:Evo w μ w' μ :=
    { os:=hs.os,tape:=hs.tape,output:=hs.output,drawn:=hs.drawn,size:=by omega,nx:=Nat.le_refl _
      keep:=fun b' _ hno=>hold b' fun e=>hno (e ▸ ⟨id,ver,hl⟩)
      loc:=fun _ _ _ h _=>h
      row := fun j u b' hj _ cur e hr=>by
        by_cases hb:b'=b
        · subst hb
          exact absurd hr (hnr _ _)
        exact ⟨cur,hr.of_heap (hold b' hb),rfl⟩
      own:=fun j u b' hj _=>⟨j,u,hj⟩
      held:=rfl }
  refine ⟨⟨h.ok,fun j v o1 hj=>?_,fun j x hj=>?_,h.inj,fun b' hb'=>⟨by have:=(h.held b' hb').1; omega,(h.held b' hb').2⟩⟩,E⟩
  · rw [hget_hset] at hj
    split at hj
    · rename_i he
      subst he;cases hj;exact ⟨some b,hl,ho E⟩
    rename_i hne
    obtain ⟨l',hl',hor⟩:=h.has j v o1 hj;have hlb:l'≠some b:=fun e'=>hne (h.inj _ _ _ _ _ (e' ▸ hl') hl);refine ⟨l',hl',?_⟩
    have gen:(∀ mid mver seen cur,o1=.iter mid mver seen cur→mid≠id)→OR w' μ o1 l':=fun hni=>by
      refine hor.evo E h.ok (fun b' hb=>?_) (fun mid mver seen cur' ho' mb hm _=>?_)
      · subst hb
        exact hold b' fun e'=>hlb (by rw [e'])
      exact hold mb fun e'=>hni _ _ _ _ ho' (h.inj _ _ _ _ _ (e' ▸ hm) hl)
    cases o1 with
    | iter mid mver seen cur =>
      by_cases hm:mid=id
      · subst hm
        exact hit E j v mver seen cur l' hj hor hlb
      exact gen fun _ _ _ _ e=>by cases e; exact hm
    | _=>exact gen fun _ _ _ _ e=>by cases e
  rw [hget_hset];split
  · exact ⟨_,rfl⟩
  exact h.only j x hj
theorem SR.updMap (h:SR w μ H) {id ver b:Nat} {es es':List (List UInt8 × HV)} (hg:hget H id=some (ver,.map es)) (hl:μ.loc id=some (ver,some b))
  (hs:Same w w') (hsz:w'.heap.size=w.heap.size) (hold:∀ b',b'≠b→w'.heap[b']?=w.heap[b']?)
  (ho:Evo w μ w' μ→OR w' μ (.map es') (some b))
  (hit:Evo w μ w' μ→∀ j v mver seen cur l,hget H j=some (v,.iter id mver seen cur)→OR w μ (.iter id mver seen cur) l→l≠some b→OR w' μ (.iter id mver seen cur) l) :
  SR w' μ (hset H id ver (.map es'))∧Evo w μ w' μ:=by
 refine h.upd hg (fun cur e hr=>?_) hl hs hsz hold ho hit;obtain ⟨l,hl',hor⟩:=h.has id ver _ hg;rw [hl] at hl';cases hl';obtain ⟨ents,clock,hm,_⟩:=hor;obtain ⟨lo,hi,hc,_⟩:=hr;rw [hm] at hc;cases hc
theorem SR.updIter (h:SR w μ H) {id ver b mid mver:Nat} {seen seen':List (List UInt8)} {cur cur':Bool} (hg:hget H id=some (ver,.iter mid mver seen cur)) (hl:μ.loc id=some (ver,some b))
  (hs:Same w w') (hsz:w'.heap.size=w.heap.size) (hold:∀ b',b'≠b→w'.heap[b']?=w.heap[b']?)
  (ho:Evo w μ w' μ→OR w' μ (.iter mid mver seen' cur') (some b)):SR w' μ (hset H id ver (.iter mid mver seen' cur'))∧Evo w μ w' μ:=by
 obtain ⟨l,hl',hor⟩:=h.has id ver _ hg;rw [hl] at hl';cases hl';obtain ⟨_,mb,since,sn,last,hm,_⟩:=hor;refine h.upd hg (fun cur e hr=>?_) hl hs hsz hold ho fun E j v mv sn' cu l hj hor' hlb=>?_
 ·obtain ⟨lo,hi,hc,_⟩:=hr
  rw [hm] at hc;cases hc
 cases l with
 | none=>exact hor'.elim
 | some b2 =>
  obtain ⟨h0,mb2,si2,sn2,la2,h2,h3⟩:=hor';refine ⟨h0,mb2,si2,sn2,la2,(hold b2 (fun e=>hlb (by rw [e]))).trans h2,fun l' hl'=>?_⟩;obtain ⟨rfl,ents,clock,h4,_⟩:=h3 l' hl';rw [hl] at hl';cases hl';rw [hm] at h4;cases h4
theorem SR.allocMap (h:SR w μ H) (id:Nat):SR (w.alloc (.map #[] 0)) (μ.set id (some w.heap.size)) (hset H id μ.nx (.map []))∧Evo w μ (w.alloc (.map #[] 0)) (μ.set id (some w.heap.size)):=by
 have g:=Grow.alloc w (.map #[] 0);have hE:=Evo.repl h id (some w.heap.size) g.toSame g.size (fun b hb _=>g.old b hb) (fun b hb=>by cases hb; exact .inl (Nat.le_refl _));refine ⟨h.repl id (some w.heap.size) _ g.toSame g.size (fun b hb _=>g.old b hb) (fun b hb=>by cases hb; exact .inl (Nat.le_refl _)) ?_,hE⟩;refine ⟨#[],0,?_,rfl,rfl,List.nodup_nil,(fun _ h=>by cases h),List.nodup_nil,(fun _ h=>by cases h)⟩;show (w.heap.push _)[w.heap.size]?=_;simp
theorem AOp.makeMap {o:Oper} {K:AS→Prop} {t:TypeId} (id:Nat) (hop:o.op=.makeMap t none) (hN:okd N o.dst=true)
  (h:∀ ver,K (({ s with heap:=hset s.heap id ver (.map []) }:AS).put o.dst (.mp id ver))):AOp P ro N o K s:=by
 refine AOp.value (fun c e=>by rw [hop] at e; cases e) hN fun B μ a w hs=>?_;obtain ⟨hsr,hE⟩:=hs.sr.allocMap id;refine ⟨.map (some w.heap.size),.mp id μ.nx,_,_,_,?_,hsr,hE,.inl ⟨w.heap.size,by simp [Mu.set],rfl⟩,h μ.nx⟩;simp [execOp,hop,Instr.makeMap,World.alloc_eq]
theorem SRel.liveMap {B:Nat} {a:Act} {id ver:Nat} {v:Value} {o:AObj} (hs:SRel ro N B μ s a w) (hr:Rep w μ (.mp id ver) v) (hg:hget s.heap id=some (ver,o)) :
  ∃ b,μ.loc id=some (ver,some b)∧v=.map (some b)∧OR w μ o (some b):=by
 obtain ⟨l,hl,hor⟩:=hs.sr.has id ver _ hg
 rcases hr with ⟨b,hb,rfl⟩ | ⟨hd,_⟩
 ·rw [hl] at hb
  cases hb;exact ⟨b,hl,rfl,hor⟩
 exact absurd hl (hd.2 l)
theorem SRel.liveIt {B:Nat} {a:Act} {id ver:Nat} {v:Value} {o:AObj} (hs:SRel ro N B μ s a w) (hr:Rep w μ (.it id ver) v) (hg:hget s.heap id=some (ver,o)) :
  ∃ b,μ.loc id=some (ver,some b)∧v=.pointer (some ⟨b,0,none⟩)∧OR w μ o (some b):=by
 obtain ⟨l,hl,hor⟩:=hs.sr.has id ver _ hg
 rcases hr with ⟨b,hb,rfl⟩ | ⟨hd,_⟩
 ·rw [hl] at hb
  cases hb;exact ⟨b,hl,rfl,hor⟩
 exact absurd hl (hd.2 l)
theorem repL_append_one {cs:List HV} {vs:List Value} {c:HV} {v:Value} (h:RepL w μ cs vs) (hc:Rep w μ c v):RepL w μ (cs++[c]) (vs++[v]) :=
 h.append ⟨v,[],rfl,hc,rfl⟩
theorem AOp.mapUpdate {o:Oper} {K:AS→Prop} {t kt et:TypeId} {m x y:Operand} {id ver:Nat} {k:List UInt8} {hv:HV} {es:List (List UInt8 × HV)} {T Tk:TyI} (hop:o.op=.mapUpdate t m x y∨o.op=.insert t m x y) (hN:okd N o.dst=true)
  (hT:ty P t=some T) (hTd:T.desc=.map kt et) (hTk:ty P kt=some Tk) (hTkd:Tk.desc=.string)
  (hm:s.ev m=some (.mp id ver)) (hx:s.ev x=some (.str k)) (hy:s.ev y=some hv) (hg:hget s.heap id=some (ver,.map es)) (hni:noIter id s.heap)
  (h:K (({ s with heap:=hset s.heap id ver (.map (mput k hv es)) }:AS).put o.dst (.v undef))):AOp P ro N o K s:=by
 refine AOp.skip (fun c e=>by rcases hop with hop | hop <;> (rw [hop] at e; cases e)) hN fun B μ a w hs=>?_;obtain ⟨b,hl,he,ents,clock,hb,hkeys,hvals,hborn,hlt,hnd,hkl⟩:=hs.liveMap (hs.ev hm) hg;obtain ⟨hxe,hxl⟩:=hs.ev hx;have hyr:=hs.ev hy
 have hkd:P.underlying kt=some .string:=by rw [← hTkd]; exact (ty_spec hTk).1
 have hk:(a.eval x)=strV k:=hxe
 have htd:P.underlying t=some (.map kt et):=by rw [← hTd]; exact (ty_spec hT).1
 have hlb:b<w.heap.size:=(Array.getElem?_eq_some_iff.1 hb).1;have hchk:=run_checkKey (P:=P) (w:=w) hkd (k:=strV k) (by simp [strV,IsKey]) false 9999
 have done:∀ (ents':Array MapEntry) (clock':Nat),(Instr.mapUpdate t (.map (some b)) (strV k) (a.eval y)).run P w=.ok () { w with heap:=w.heap.set! b (.map ents' clock') } →
   (∀ w',Evo w μ w' μ→w'.heap[b]?=some (.map ents' clock')→OR w' μ (.map (mput k hv es)) (some b)) →
   ∃ μ' w' H',(execOp a.eval o).run P w=.ok .skip w'∧SR w' μ' H'∧Evo w μ w' μ'∧K (({ s with heap:=H' }:AS).put o.dst (.v undef)):=by
  intro ents' clock' hrun hor
  obtain ⟨h1,h2⟩:=hs.sr.updMap (w':={ w with heap:=w.heap.set! b (.map ents' clock') }) (es':=mput k hv es) hg hl ⟨rfl,rfl,rfl,Nat.le_refl _⟩ (by simp)
   (fun b' hb'=>by simp [Array.getElem?_setIfInBounds_ne (fun e=>hb' e.symm)])
   (fun E=>hor _ E (by simp [hlb]))
   (fun _ j v mver seen cur l hj=>absurd rfl (noIter_get hni j v id mver seen cur hj))
  refine ⟨μ,_,_,?_,h1,h2,h⟩
  rcases hop with hop | hop <;> (simp only [execOp,hop,hk,he,Sem.run_bind,hrun,Result.andThen_ok]; rfl)
 rcases find_str (k:=k) 0 hkeys hvals with ⟨h1,h2⟩ | ⟨j,e,h',h1,h2,h3,h4,h5,h6,h7,h8⟩
 ·refine done (ents.push { key:=strV k,val:=a.eval y,born:=clock }) (clock+1) ?_ ?_
  ·simp [Instr.mapUpdate,run_underlying htd,MapKept.run_getObj_map hb,hchk,run_findKey hkd h2,run_setObj_map _ hb,Result.andThen]
  intro w' E hb';rw [mput_new h1];refine ⟨_,_,hb',by simp [hkeys],?_,?_,?_,?_,?_⟩
  ·simp only [List.map_append,Array.toList_push,List.map_cons,List.map_nil]
   exact repL_append_one (RepL.evo E hs.sr.ok _ _ hvals) (Rep.evo E hs.sr.ok _ _ hyr)
  ·simp only [List.map_append,Array.toList_push,List.map_cons,List.map_nil]
   rw [List.nodup_append];refine ⟨hborn,by simp,fun x hx y hy=>?_⟩;simp only [List.mem_singleton] at hy;obtain ⟨z,hz,rfl⟩:=List.mem_map.1 hx;have:=hlt z hz;omega
  ·intro z hz
   simp only [Array.toList_push,List.mem_append,List.mem_singleton] at hz
   rcases hz with hz | rfl
   ·have:=hlt z hz; omega
   simp
  ·simp only [List.map_append,List.map_cons,List.map_nil]
   rw [List.nodup_append]
   exact ⟨hnd,by simp,fun x hx y hy e=>by
    simp only [List.mem_singleton] at hy
    exact alook_none.1 h1 (by rw [← hy,← e]; exact hx)⟩
  intro x hx;simp only [List.mem_append,List.mem_singleton] at hx
  rcases hx with hx | rfl
  ·exact hkl x hx
  exact hxl
 refine done (ents.modify j fun e=>{ e with key:=strV k,val:=a.eval y }) clock ?_ ?_
 ·have hj:ents[j]?=some e:=by simpa using h1
  simp [Instr.mapUpdate,run_underlying htd,MapKept.run_getObj_map hb,hchk,run_findKey hkd h5,hj,h2,run_keyThatStays (d:=.string) (k:=strV k) (by simp [strV,IsKey]),run_setObj_map _ hb,Result.andThen]
 intro w' E hb'
 have hes:(mput k hv es).map (fun x=>strV x.1)=es.map (fun x=>strV x.1):=by
  rw [h6]; exact modify_map_same (fun x=>strV x.1) (fun x=>(x.1,hv)) es j (fun x _=>rfl)
 have hborn':(ents.modify j fun e=>{ e with key:=strV k,val:=a.eval y }).toList.map (·.born)=ents.toList.map (·.born):=by
  rw [Array.toList_modify]; exact modify_map_same (fun x:MapEntry=>x.born) (fun e=>{ e with key:=strV k,val:=a.eval y }) ents.toList j (fun x _=>rfl)
 refine ⟨_,_,hb',?_,?_,?_,?_,?_,?_⟩
 ·rw [hes,Array.toList_modify,← hkeys]
  refine modify_map_same (fun x:MapEntry=>x.key) (fun e=>{ e with key:=strV k,val:=a.eval y }) ents.toList j fun x hx=>?_;rw [h1] at hx;cases hx;exact h2.symm
 ·rw [h6,Array.toList_modify,modify_map_set (fun x:List UInt8 × HV=>x.2) (fun x=>(x.1,hv)) hv (fun _=>rfl),
   modify_map_set (fun x:MapEntry=>x.val) (fun e=>{ e with key:=strV k,val:=a.eval y }) (a.eval y) (fun _=>rfl)]
  exact RepL.set (RepL.evo E hs.sr.ok _ _ hvals) (Rep.evo E hs.sr.ok _ _ hyr) j
 ·rw [hborn']; exact hborn
 ·intro z hz
  have:z.born∈(ents.modify j fun e=>{ e with key:=strV k,val:=a.eval y }).toList.map (·.born):=List.mem_map.2 ⟨z,hz,rfl⟩;rw [hborn'] at this;obtain ⟨z',hz',e'⟩:=List.mem_map.1 this;rw [← e'];exact hlt z' hz'
 ·rw [mput_keys (by rw [h3]; simp)]; exact hnd
 intro x hx
 have:x.1∈es.map (·.1):=by rw [← mput_keys (k:=k) (h:=hv) (by rw [h3]; simp)]; exact List.mem_map.2 ⟨x,hx,rfl⟩
 obtain ⟨y',hy',e'⟩:=List.mem_map.1 this;rw [← e'];exact hkl y' hy'
theorem AOp.lookup {o:Oper} {K:AS→Prop} {t kt et:TypeId} {m x:Operand} {id ver:Nat} {k:List UInt8} {es:List (List UInt8 × HV)} {T Tk Te:TyI} {z:HV} (hop:o.op=.lookup t m x false) (hN:okd N o.dst=true)
  (hT:ty P t=some T) (hTd:T.desc=.map kt et) (hTk:ty P kt=some Tk) (hTkd:Tk.desc=.string) (hTe:ty P et=some Te) (hz:constHV Te.zero=some z)
  (hm:s.ev m=some (.mp id ver)) (hx:s.ev x=some (.str k)) (hg:hget s.heap id=some (ver,.map es))
  (h:K (s.put o.dst ((alook k es).getD z))):AOp P ro N o K s:=by
 refine AOp.value (fun c e=>by rw [hop] at e; cases e) hN fun B μ a w hs=>?_;obtain ⟨b,hl,he,ents,clock,hb,hkeys,hvals,hborn,hlt,hnd,hkl⟩:=hs.liveMap (hs.ev hm) hg;obtain ⟨hxe,hxl⟩:=hs.ev hx
 have hkd:P.underlying kt=some .string:=by rw [← hTkd]; exact (ty_spec hTk).1
 have htd:P.underlying t=some (.map kt et):=by rw [← hTd]; exact (ty_spec hT).1
 have hk:(a.eval x)=strV k:=hxe;have hchk:=run_checkKey (P:=P) (w:=w) hkd (k:=strV k) (by simp [strV,IsKey]) ents.isEmpty 9999;have hzr:Rep w μ z Te.zero:=constHV_rep hz
 rcases find_str (k:=k) 0 hkeys hvals with ⟨h1,h2⟩ | ⟨j,e,h',h1,h2,h3,h4,h5,h6,h7,h8⟩
 ·refine ⟨Te.zero,z,μ,w,s.heap,?_,hs.sr,Evo.refl w μ,hzr,by rw [h1] at h; exact h⟩
  simp [execOp,hop,hk,he,Instr.lookup,run_underlying htd,MapKept.run_getObj_map hb,hchk,run_findKey hkd h2,ty_zero hTe,Result.andThen]
 refine ⟨e.val,h',μ,w,s.heap,?_,hs.sr,Evo.refl w μ,h4,by rw [h3] at h; exact h⟩;simp [execOp,hop,hk,he,Instr.lookup,run_underlying htd,MapKept.run_getObj_map hb,hchk,run_findKey hkd h5,Result.andThen]
theorem SR.allocIter (h:SR w μ H) (id:Nat) {mid mver mb:Nat} {es:List (List UInt8 × HV)} (hg:hget H mid=some (mver,.map es)) (hl:μ.loc mid=some (mver,some mb)) (hid:id≠mid) {ents:Array MapEntry} {clock:Nat}
  (hb:w.heap[mb]?=some (.map ents clock)) :
  SR (w.alloc (.mapIter (some mb) clock #[] clock)) (μ.set id (some w.heap.size)) (hset H id μ.nx (.iter mid mver [] false))∧Evo w μ (w.alloc (.mapIter (some mb) clock #[] clock)) (μ.set id (some w.heap.size)):=by
 have g:=Grow.alloc w (.mapIter (some mb) clock #[] clock);have hE:=Evo.repl h id (some w.heap.size) g.toSame g.size (fun b hb _=>g.old b hb) (fun b hb=>by cases hb; exact .inl (Nat.le_refl _));refine ⟨h.repl id (some w.heap.size) _ g.toSame g.size (fun b hb _=>g.old b hb) (fun b hb=>by cases hb; exact .inl (Nat.le_refl _)) ?_,hE⟩;have hmb:=h.blk hl;refine ⟨by have:=h.ok mid mver _ hl; simp [Mu.set]; omega,mb,clock,#[],clock,?_,fun l hl'=>?_⟩
 ·show (w.heap.push _)[w.heap.size]?=_
  simp
 simp only [Mu.set,if_neg (Ne.symm hid),hl] at hl';cases hl';refine ⟨rfl,ents,clock,(g.old mb hmb).trans hb,rfl,rfl,fun x _=>by simp,fun h=>by cases h⟩
theorem AOp.range {o:Oper} {K:AS→Prop} {t kt et:TypeId} {m:Operand} {mid mver:Nat} {es:List (List UInt8 × HV)} {T:TyI} (id:Nat) (hop:o.op=.range t m) (hN:okd N o.dst=true)
  (hT:ty P t=some T) (hTd:T.desc=.map kt et) (hm:s.ev m=some (.mp mid mver)) (hg:hget s.heap mid=some (mver,.map es)) (hid:id≠mid)
  (h:∀ ver,K (({ s with heap:=hset s.heap id ver (.iter mid mver [] false) }:AS).put o.dst (.it id ver))):AOp P ro N o K s:=by
 refine AOp.value (fun c e=>by rw [hop] at e; cases e) hN fun B μ a w hs=>?_;obtain ⟨b,hl,he,ents,clock,hb,_⟩:=hs.liveMap (hs.ev hm) hg
 have htd:P.underlying t=some (.map kt et):=by rw [← hTd]; exact (ty_spec hT).1
 obtain ⟨hsr,hE⟩:=hs.sr.allocIter id hg hl hid hb;refine ⟨.pointer (some ⟨w.heap.size,0,none⟩),.it id μ.nx,_,_,_,?_,hsr,hE,.inl ⟨w.heap.size,by simp [Mu.set],rfl⟩,h μ.nx⟩;simp [execOp,hop,he,Instr.range,run_underlying htd,MapKept.run_getObj_map hb,World.alloc_eq,Result.andThen]
theorem RepL.mem {cs:List HV} {vs:List Value} (h:RepL w μ cs vs) {j:Nat} {v:Value} (hv:vs[j]?=some v):∃ c,cs[j]?=some c∧Rep w μ c v:=by
 have hlen:=h.length
 have hj:j<cs.length:=by have:=(List.getElem?_eq_some_iff.1 hv).1; omega
 obtain ⟨x,hx,hr⟩:=h.get (List.getElem?_eq_getElem hj);rw [hv] at hx;cases hx;exact ⟨_,List.getElem?_eq_getElem hj,hr⟩
theorem keys_at {es:List (List UInt8 × HV)} {ents:List MapEntry} (hk:ents.map (·.key)=es.map (fun x=>strV x.1)) {j:Nat} {e:MapEntry} (he:ents[j]?=some e) :
  ∃ p,es[j]?=some p∧e.key=strV p.1:=by
 have h1:(ents.map (·.key))[j]?=some e.key:=by rw [List.getElem?_map,he]; rfl
 rw [hk,List.getElem?_map] at h1
 cases hp:es[j]? with
 | none=>rw [hp] at h1; cases h1
 | some p=>rw [hp] at h1; exact ⟨p,rfl,(Option.some.inj h1).symm⟩
theorem AOp.next {o:Oper} {K:AS→Prop} {x:Operand} {id ver mid mver:Nat} {seen:List (List UInt8)} {cur:Bool} {es:List (List UInt8 × HV)} (hop:o.op=.next x false) (hN:okd N o.dst=true)
  (hx:s.ev x=some (.it id ver)) (hg:hget s.heap id=some (ver,.iter mid mver seen cur)) (hgm:hget s.heap mid=some (mver,.map es))
  (h1:(∀ p∈es,p.1∈seen)→K (s.put o.dst (.tup [.bool false])))
  (h2:∀ k v,(k,v)∈es→k ∉ seen→K (({ s with heap:=hset s.heap id ver (.iter mid mver (k::seen) true) }:AS).put o.dst (.tup [.bool true,.str k,v]))):AOp P ro N o K s:=by
 refine AOp.value (fun c e=>by rw [hop] at e; cases e) hN fun B μ a w hs=>?_;obtain ⟨r,hl,he,h0,mb,since,sn,last,hr,hall⟩:=hs.liveIt (hs.ev hx) hg;obtain ⟨lm,hlm,hmor⟩:=hs.sr.has mid mver _ hgm;obtain ⟨rfl,ents,clock,hb,rfl,rfl,hseen,hcur⟩:=hall lm hlm;obtain ⟨ents',clock',hb',hkeys,hvals,hborn,hlt,hnd,hkl⟩:=hmor;rw [hb] at hb';cases hb'
 have hleft:∀ e,e∈(leftOf ents sn).toList↔e∈ents.toList∧e.born ∉ sn.toList:=fun e=>by
  simp [leftOf]
 rcases Go.run_next_at (P:=P) w o.type r mb _ _ sn ents _ hr hb hlt (Nat.le_refl _) with ⟨h3,h4⟩ | ⟨e,h3,w1,h4,h5⟩
 ·refine ⟨_,.tup [.bool false],μ,w,s.heap,?_,hs.sr,Evo.refl w μ,⟨[.bool false],rfl,_,_,rfl,rfl,rfl⟩,h1 fun p hp=>?_⟩
  ·simp only [execOp,hop,he,Sem.run_bind,h4,Result.andThen_ok]
   rfl
  obtain ⟨j,hj⟩:=List.mem_iff_getElem?.1 hp
  have hkj:(es.map fun x=>strV x.1)[j]?=some (strV p.1):=by rw [List.getElem?_map,hj]; rfl
  rw [← hkeys,List.getElem?_map] at hkj
  cases hej:ents.toList[j]? with
  | none=>rw [hej] at hkj; cases hkj
  | some e =>
   rw [hej] at hkj;have hke:e.key=strV p.1:=Option.some.inj hkj;have hem:e∈ents.toList:=List.mem_of_getElem? hej
   have hnot:¬ (e∈(leftOf ents sn).toList):=fun hh=>by
    have:=Array.eq_empty_of_size_eq_zero h3;rw [this] at hh;cases hh
   have hin:e.born∈sn.toList:=Classical.byContradiction fun hn=>hnot ((hleft e).2 ⟨hem,hn⟩);obtain ⟨k,hk,hkk⟩:=(hseen e hem).1 hin;rw [hke,codeV_strV] at hkk;rw [hkk];exact hk
 obtain ⟨hem,hns⟩:=(hleft e).1 h3;obtain ⟨j,hej⟩:=List.mem_iff_getElem?.1 hem;obtain ⟨p,hpj,hke⟩:=keys_at hkeys hej
 have hval:(ents.toList.map (·.val))[j]?=some e.val:=by rw [List.getElem?_map,hej]; rfl
 obtain ⟨c,hc,hcr⟩:=RepL.mem hvals hval
 have hc':c=p.2:=by
  rw [List.getElem?_map,hpj] at hc;exact (Option.some.inj hc).symm
 subst hc';have hpm:p∈es:=List.mem_of_getElem? hpj
 have hw1:Same w w1∧w1.heap=w.heap:=by
  rcases h4 with rfl | rfl
  ·exact ⟨Same.refl _,rfl⟩
  exact ⟨⟨rfl,rfl,rfl,Nat.le_succ _⟩,rfl⟩
 have hrl:r<w.heap.size:=(Array.getElem?_eq_some_iff.1 hr).1
 have hmr:mb≠r:=fun e'=>by subst e'; rw [hr] at hb; cases hb
 have hke1:codeV e.key=p.1:=by rw [hke,codeV_strV]
 have hknot:p.1 ∉ seen:=fun hh=>hns ((hseen e hem).2 ⟨p.1,hh,hke1⟩)
 have hbeq:∀ x∈ents.toList,x.born=e.born→x=e:=fun x hx hxe=>by
  obtain ⟨i,hi⟩:=List.mem_iff_getElem?.1 hx
  have h6:(ents.toList.map (·.born))[i]?=some e.born:=by rw [List.getElem?_map,hi]; simp [hxe]
  have h7:(ents.toList.map (·.born))[j]?=some e.born:=by rw [List.getElem?_map,hej]; rfl
  have hil:i<(ents.toList.map (·.born)).length:=(List.getElem?_eq_some_iff.1 h6).1;have:=(List.getElem?_inj hil hborn).1 (h6.trans h7.symm);subst this;rw [hej] at hi;exact (Option.some.inj hi).symm
 obtain ⟨h6,h7⟩:=hs.sr.updIter (w':=ChangeMaps.setBlock w1 r (.mapIter (some mb) last (sn.push e.born) last)) (seen':=p.1::seen) (cur':=true) hg hl
  ⟨hw1.1.os,hw1.1.tape,hw1.1.output,hw1.1.drawn⟩ (by simp [ChangeMaps.setBlock,hw1.2]) (fun b' hb'=>by
   simp only [ChangeMaps.setBlock,hw1.2]
   rw [Array.getElem?_setIfInBounds_ne (fun e=>hb' e.symm)])
  (fun E=>by
   refine ⟨h0,mb,last,sn.push e.born,last,?_,fun l' hl'=>?_⟩
   ·simp [ChangeMaps.setBlock,hw1.2,hrl]
   rw [hlm] at hl';cases hl';refine ⟨rfl,ents,last,?_,rfl,rfl,fun x hx=>?_,fun _=>⟨p.1,rfl,e,hem,hke1,by simp⟩⟩
   ·simp only [ChangeMaps.setBlock,hw1.2]
    rw [Array.getElem?_setIfInBounds_ne (fun e=>hmr e.symm)];exact hb
   simp only [Array.toList_push,List.mem_append,List.mem_cons,List.not_mem_nil,or_false];constructor
   ·rintro (hx' | hx')
    ·obtain ⟨k,hk,hkk⟩:=(hseen x hx).1 hx'
     exact ⟨k,.inr hk,hkk⟩
    rw [hbeq x hx hx'];exact ⟨p.1,.inl rfl,hke1⟩
   rintro ⟨k,rfl | hk,hkk⟩
   ·right
    obtain ⟨i,hi⟩:=List.mem_iff_getElem?.1 hx;obtain ⟨q,hq,hqk⟩:=keys_at hkeys hi
    have e1:q.1=p.1:=by rw [hqk,codeV_strV] at hkk; exact hkk
    have h8:(es.map (·.1))[i]?=some p.1:=by rw [List.getElem?_map,hq]; simp [e1]
    have h9:(es.map (·.1))[j]?=some p.1:=by rw [List.getElem?_map,hpj]; rfl
    have:=(List.getElem?_inj (List.getElem?_eq_some_iff.1 h8).1 hnd).1 (h8.trans h9.symm);subst this;rw [hej] at hi;rw [Option.some.inj hi]
   exact .inl ((hseen x hx).2 ⟨k,hk,hkk⟩))
 refine ⟨.tuple #[.bool true,e.key,e.val],.tup [.bool true,.str p.1,p.2],μ,_,_,?_,h6,h7,?_,h2 p.1 p.2 hpm hknot⟩
 ·simp only [execOp,hop,he,Sem.run_bind,h5,Result.andThen_ok]
  rfl
 refine ⟨[.bool true,e.key,e.val],rfl,_,_,rfl,rfl,_,_,rfl,⟨hke,hkl p hpm⟩,_,_,rfl,Rep.evo h7 hs.sr.ok _ _ hcr,rfl⟩
theorem alook_mem {k:List UInt8} {v:HV}:∀ {es:List (List UInt8 × HV)},(es.map (·.1)).Nodup→(k,v)∈es→alook k es=some v
 | (q,h)::es,hn,hm=>by
  simp only [List.map_cons,List.nodup_cons] at hn;simp only [alook]
  rcases List.mem_cons.1 hm with e | hm
  ·cases e; simp
  rw [if_neg,alook_mem hn.2 hm];intro e;exact hn.1 (List.mem_map.2 ⟨(k,v),hm,e⟩)
theorem AOp.entry {o:Oper} {K:AS→Prop} {x:Operand} {id ver mid mver:Nat} {k:List UInt8} {seen:List (List UInt8)} {es:List (List UInt8 × HV)} {v:HV} (hop:o.op=.entry x) (hN:okd N o.dst=true)
  (hx:s.ev x=some (.it id ver)) (hg:hget s.heap id=some (ver,.iter mid mver (k::seen) true)) (hgm:hget s.heap mid=some (mver,.map es)) (hk:alook k es=some v)
  (h:K (s.put o.dst (.tup [.str k,v]))):AOp P ro N o K s:=by
 refine AOp.value (fun c e=>by rw [hop] at e; cases e) hN fun B μ a w hs=>?_;obtain ⟨r,hl,he,h0,mb,since,sn,last,hr,hall⟩:=hs.liveIt (hs.ev hx) hg;obtain ⟨lm,hlm,hmor⟩:=hs.sr.has mid mver _ hgm;obtain ⟨rfl,ents,clock,hb,rfl,rfl,hseen,hcur⟩:=hall lm hlm;obtain ⟨ents',clock',hb',hkeys,hvals,hborn,hlt,hnd,hkl⟩:=hmor;rw [hb] at hb';cases hb';obtain ⟨k',hk',e,hem,hke,hback⟩:=hcur rfl;cases hk';obtain ⟨j,hej⟩:=List.mem_iff_getElem?.1 hem;obtain ⟨p,hpj,hke'⟩:=keys_at hkeys hej
 have hval:(ents.toList.map (·.val))[j]?=some e.val:=by rw [List.getElem?_map,hej]; rfl
 obtain ⟨c,hc,hcr⟩:=RepL.mem hvals hval
 have hc':c=p.2:=by
  rw [List.getElem?_map,hpj] at hc;exact (Option.some.inj hc).symm
 subst hc';have hpm:p∈es:=List.mem_of_getElem? hpj
 have hpk:p.1=k:=by rw [hke',codeV_strV] at hke; exact hke
 have hv:v=p.2:=by
  have:=alook_mem (k:=k) (v:=p.2) hnd (by rw [← hpk]; exact hpm);rw [hk] at this;exact Option.some.inj this
 subst hv
 have hbeq:∀ x∈ents.toList,x.born=e.born→x=e:=fun x hx hxe=>by
  obtain ⟨i,hi⟩:=List.mem_iff_getElem?.1 hx
  have h6:(ents.toList.map (·.born))[i]?=some e.born:=by rw [List.getElem?_map,hi]; simp [hxe]
  have h7:(ents.toList.map (·.born))[j]?=some e.born:=by rw [List.getElem?_map,hej]; rfl
  have hil:i<(ents.toList.map (·.born)).length:=(List.getElem?_eq_some_iff.1 h6).1;have:=(List.getElem?_inj hil hborn).1 (h6.trans h7.symm);subst this;rw [hej] at hi;exact (Option.some.inj hi).symm
 have hfind:ents.find? (fun x=>x.born == e.born)=some e:=by
  cases hf:ents.find? (fun x=>x.born == e.born) with
  | none =>
   have:=Array.find?_eq_none.1 hf e (by simpa using hem);simp at this
  | some y =>
   have h1:=Array.find?_some hf;have h2:=Array.mem_of_find?_eq_some hf;rw [hbeq y (by simpa using h2) (by simpa using h1)]
 refine ⟨.tuple #[e.key,e.val],.tup [.str k,p.2],μ,w,s.heap,?_,hs.sr,Evo.refl w μ,⟨[e.key,e.val],rfl,_,_,rfl,⟨hpk ▸ hke',hpk ▸ hkl p hpm⟩,_,_,rfl,hcr,rfl⟩,h⟩;simp [execOp,hop,he,Instr.entry,getObj,Sem.run,hr,hback,hb,hfind,Result.andThen]
end
end
def setPs (snap:List (Nat × HV)):List Tmp→List HV→List (Nat × HV)
 | p::ps,h::hs=>setPs (sset snap p h) ps hs
 | _,_=>snap
def rndQ (id ver f n:Nat) (snap:List (Nat × HV)) (ps:Array Tmp) (assign body:Code) (K:HV→Heap→Prop) (e:Exit) (s:AS):Prop :=
 hget s.heap id=some (ver,.loop .busy none f n snap ps assign body)∧match e with
 | .normal=>K (.bool true) (hset s.heap id ver (.loop .ready none f n snap ps assign body))
 | .ret=>K (.bool false) (hset s.heap id ver (.loop .done (some .ret) f n snap ps assign body))
 | .exit i=>K (.bool false) (hset s.heap id ver (.loop .done (some (.exit i)) f n snap ps assign body))
 | _=>False
def YCall (P:Program) (id ver:Nat) (hs:List HV) (H:Heap) (K:HV→Heap→Prop):Prop :=
 ∃ f n snap ps assign body,hget H id=some (ver,.loop .ready none f n snap ps assign body)∧ps.size=hs.length∧(∀ p∈ps.toList,p<n) ∧
  ∀ l,AW P (some l) n assign (fun e s1=>e=.normal∧hget s1.heap id=some (ver,.loop .ready none f n snap ps assign body) ∧
   AW P (some l) n body (rndQ id ver f n snap ps assign body K) { s1 with heap:=hset s1.heap id ver (.loop .busy none f n snap ps assign body) }) { slots:=setPs snap ps.toList hs,heap:=H }
section
variable {P:Program} {ro:Option Nat} {N:Nat} {s:AS} {w w':World} {μ:Mu} {H:Heap}
theorem setPs_rep:∀ (ps:List Tmp) (hs:List HV) (vs:List Value) (snap:List (Nat × HV)) (tmps:Array Value) (n:Nat),ps.length=hs.length→(∀ p∈ps,p<n)→tmps.size=n→RepL w μ hs vs →
  (∀ t hv,sget snap t=some hv→t<n∧Rep w μ hv (tmps.getD t undef)) →
  ((ps.zip vs).foldl (fun tmps (x:Tmp × Value)=>tmps.setIfInBounds x.1 x.2) tmps).size=n ∧
   ∀ t hv,sget (setPs snap ps hs) t=some hv→t<n∧Rep w μ hv (((ps.zip vs).foldl (fun tmps (x:Tmp × Value)=>tmps.setIfInBounds x.1 x.2) tmps).getD t undef)
 | [],[],vs,snap,tmps,n,_,_,hz,hr,h=>by
  cases hr;exact ⟨hz,h⟩
 | p::ps,h::hs,vs,snap,tmps,n,hl,hp,hz,hr,hh=>by
  obtain ⟨x,xs,rfl,h1,h2⟩:=hr;simp only [List.zip_cons_cons,List.foldl_cons,setPs];refine setPs_rep ps hs xs (sset snap p h) _ n (by simpa using hl) (fun q hq=>hp q (List.mem_cons_of_mem _ hq)) (by simpa using hz) h2 fun t hv ht=>?_;have hpn:=hp p (List.mem_cons_self ..);rw [sget_sset] at ht;split at ht
  ·rename_i e
   subst e;cases ht;refine ⟨hpn,?_⟩;rw [Array.getD_eq_getD_getElem?,Array.getElem?_setIfInBounds_self_of_lt (by rw [hz]; exact hpn)];exact h1
  rename_i e
  obtain ⟨h3,h4⟩:=hh t hv ht;refine ⟨h3,?_⟩;rw [Array.getD_eq_getD_getElem?,Array.getElem?_setIfInBounds_ne (fun e'=>e e'.symm),← Array.getD_eq_getD_getElem?];exact h4
 | [],_::_,_,_,_,_,hl,_,_,_,_=>by simp at hl
 | _::_,[],_,_,_,_,hl,_,_,_,_=>by simp at hl
theorem SR.updLoop (h:SR w μ H) {id ver b:Nat} {st st':LoopState} {pend pend':Option Code} {f n:Nat} {snap:List (Nat × HV)} {ps:Array Tmp} {assign body:Code}
  (hg:hget H id=some (ver,.loop st pend f n snap ps assign body)) (hl:μ.loc id=some (ver,some b)) :
  ∃ tmps dfr,w.heap[b]?=some (.loop { state:=st,pending:=pend,fn:=f,tmps:=tmps,params:=ps,assign:=assign,body:=body,defers:=dfr })∧tmps.size=n ∧
   (∀ t hv,sget snap t=some hv→t<n∧Rep w μ hv (tmps.getD t undef)) ∧
   let w':World:={ w with heap:=w.heap.setIfInBounds b (.loop { state:=st',pending:=pend',fn:=f,tmps:=tmps,params:=ps,assign:=assign,body:=body,defers:=dfr }) }
   SR w' μ (hset H id ver (.loop st' pend' f n snap ps assign body))∧Evo w μ w' μ:=by
 obtain ⟨l,hl',hor⟩:=h.has id ver _ hg;rw [hl] at hl';cases hl';obtain ⟨tmps,dfr,hb,hz,hs⟩:=hor;have hlt:b<w.heap.size:=(Array.getElem?_eq_some_iff.1 hb).1;refine ⟨tmps,dfr,hb,hz,hs,?_⟩;intro w'
 have hb':w'.heap[b]?=some (.loop { state:=st',pending:=pend',fn:=f,tmps:=tmps,params:=ps,assign:=assign,body:=body,defers:=dfr }):=by
  simp [w',hlt]
 have hold:∀ b',b'≠b→w'.heap[b']?=w.heap[b']?:=fun b' hb'=>by
  simp only [w'];rw [Array.getElem?_setIfInBounds_ne (fun e=>hb' e.symm)]
 refine h.upd hg (fun cur e hr=>?_) hl ⟨rfl,rfl,rfl,Nat.le_refl _⟩ (by simp [w']) hold (fun E=>⟨tmps,dfr,hb',hz,fun t hv ht=>⟨(hs t hv ht).1,Rep.evo E h.ok _ _ (hs t hv ht).2⟩⟩) fun E j v mv sn' cu l hj hor' hlb=>?_
 ·obtain ⟨lo,hi,hc,_⟩:=hr
  rw [hb] at hc;cases hc
 cases l with
 | none=>exact hor'.elim
 | some b2 =>
  obtain ⟨h0,mb2,si2,sn2,la2,h2,h3⟩:=hor';refine ⟨h0,mb2,si2,sn2,la2,(hold b2 (fun e=>hlb (by rw [e]))).trans h2,fun l' hl'=>?_⟩;obtain ⟨rfl,ents,clock,h4,_⟩:=h3 l' hl';rw [hl] at hl';cases hl';rw [hb] at h4;cases h4
theorem run_getLoop {l:Nat} {r:Loop} (h:w.heap[l]?=some (.loop r)):(Instr.getLoop l).run P w=.ok r w:=by
 simp [Instr.getLoop,getObj,Sem.run,h,Result.andThen]
theorem run_setLoop {l:Nat} {r r':Loop} (h:w.heap[l]?=some (.loop r)):(setObj l (.loop r')).run P w=.ok () { w with heap:=w.heap.setIfInBounds l (.loop r') }:=by
 simp [setObj,Sem.run,h]
theorem SRel.heap {B:Nat} {a:Act} (hs:SRel ro N B μ s a w) {μ':Mu} {H':Heap} (E:Evo w μ w' μ') (hsr:SR w' μ' H'):SRel ro N B μ' { s with heap:=H' } a w' :=
 ⟨hs.size,hsr,fun t hv ht=>⟨(hs.slot t hv ht).1,Rep.evo E hs.sr.ok _ _ (hs.slot t hv ht).2⟩,hs.marks.evo E,hs.ro.evo E⟩
theorem AOp.yield {o:Oper} {K:AS→Prop} {c:Call} {g:Operand} {id ver:Nat} {hs:List HV} (hop:o.op=.call c) (hc:c.callee=.value g) (hN:okd N o.dst=true)
  (hg:s.ev g=some (.yl id ver)) (ha:c.args.toList.mapM s.ev=some hs) (h:YCall P id ver hs s.heap fun r H'=>K (({ s with heap:=H' }:AS).put o.dst r)):AOp P ro N o K s:=by
 intro w0 μ0 μ a w next Q hsr hE hK
 refine ⟨fun f _=>trivial,?_⟩;rw [Oper.semAt_eq _ _ _ (fun c e=>by rw [hop] at e; cases e)];obtain ⟨f,n,snap,ps,assign,body,hgl,hps,hpn,hround⟩:=h;have hvs:=mapM_ev hsr ha;obtain ⟨l0,hl0,hor0⟩:=hsr.sr.has id ver _ hgl
 have hlive:∃ l,μ.loc id=some (ver,some l)∧a.eval g=.func (.yield l) #[] #[]:=by
  rcases hsr.ev hg with ⟨b,hb,hv⟩ | ⟨hd,_⟩
  ·exact ⟨b,hb,hv⟩
  exact absurd hl0 (hd.2 l0)
 obtain ⟨l,hl,hv⟩:=hlive;rw [hl] at hl0;cases hl0;obtain ⟨tmps,dfr,hb,hz,hsn⟩:=hor0;have hvl:=hvs.length
 have hrun:(execOp a.eval o).run P w=.ok (.round l f ((ps.zip (c.args.map a.eval)).foldl (fun tmps (x:Tmp × Value)=>tmps.setIfInBounds x.1 x.2) tmps) assign body) w:=by
  have hlen:c.args.size=ps.size:=by
   have h1:hs.length=(c.args.toList.map a.eval).length:=hvl.symm;simp only [List.length_map,Array.length_toList] at h1;omega
  simp [execOp,hop,resolve,hc,hv,Deferred.ofValue,invoke,Instr.yield,run_getLoop hb,hlen,Result.andThen]
 rw [hrun];refine ⟨fun hd=>absurd (fence_depth ro hd) (by omega),?_⟩;obtain ⟨hsz,hslot⟩:=setPs_rep ps.toList hs (c.args.toList.map a.eval) snap tmps n (by simpa using hps) hpn hz hvs hsn
 have htm:(ps.zip (c.args.map a.eval)).foldl (fun tmps (x:Tmp × Value)=>tmps.setIfInBounds x.1 x.2) tmps=(ps.toList.zip (c.args.toList.map a.eval)).foldl (fun tmps (x:Tmp × Value)=>tmps.setIfInBounds x.1 x.2) tmps:=by
  rw [← Array.foldl_toList];simp
 rw [htm]
 have hs0:SRel (some l) n w.heap.size μ { slots:=setPs snap ps.toList hs,heap:=s.heap } { tmps:=(ps.toList.zip (c.args.toList.map a.eval)).foldl (fun tmps (x:Tmp × Value)=>tmps.setIfInBounds x.1 x.2) tmps,defers:=[] } w :=
  ⟨hsz,hsr.sr,hslot,Marks.nil _ _ _,hsr.ro⟩
 refine RoundIn.mono (R:=fun e w2=>match e with
  | .returned v=>next (a.put o.dst v) w2
  | _=>False) (roundIn_of_wpIn (F:=fence ro) trivial ?_) ?_
 ·refine wpIn_mono (hround l w μ μ _ w hs0 (Evo.refl w μ)) ?_
  rintro e a1 w1 ⟨_,_,μ1,s1,⟨rfl,hg1,hbody⟩,hs1,E1⟩
  have hl1:μ1.loc id=some (ver,some l):=by
   obtain ⟨l1,hl1,_⟩:=hs1.sr.has id ver _ hg1;have:=E1.loc id ver l1 hl1 (hsr.sr.ok _ _ _ hl);rw [hl] at this;cases this;exact hl1
  obtain ⟨t1,d1,hb1,hz1,hsn1,hsr2,E2⟩:=hs1.sr.updLoop (st':=.busy) (pend':=none) hg1 hl1;refine ⟨_,by simp [Instr.beginRound,run_getLoop hb1,run_setLoop hb1,Result.andThen]; rfl,?_⟩;have hs2:=hs1.heap E2 hsr2;refine wpIn_mono (hbody w μ μ1 a1 _ hs2 (E1.trans E2)) ?_
  rintro e a3 w3 ⟨_,_,μ3,s3,⟨hg3,hq3⟩,hs3,E3⟩
  have hl3:μ3.loc id=some (ver,some l):=by
   obtain ⟨l3,hl3,_⟩:=hs3.sr.has id ver _ hg3;have:=E3.loc id ver l3 hl3 (hsr.sr.ok _ _ _ hl);rw [hl] at this;cases this;exact hl3
  cases e with
  | normal =>
   obtain ⟨t4,d4,hb4,hz4,hsn4,hsr4,E4⟩:=hs3.sr.updLoop (st':=.ready) (pend':=none) hg3 hl3;refine ⟨.bool true,_,by simp [Instr.endRound,run_getLoop hb4,run_setLoop hb4,Result.andThen]; rfl,?_⟩;exact hK μ3 _ _ _ hq3 (hsr.put (E3.trans E4) hsr4 hN rfl) (hE.trans (E3.trans E4))
  | ret =>
   obtain ⟨t4,d4,hb4,hz4,hsn4,hsr4,E4⟩:=hs3.sr.updLoop (st':=.done) (pend':=some .ret) hg3 hl3;refine ⟨.bool false,_,by simp [Instr.endRound,run_getLoop hb4,run_setLoop hb4,Result.andThen]; rfl,?_⟩;exact hK μ3 _ _ _ hq3 (hsr.put (E3.trans E4) hsr4 hN rfl) (hE.trans (E3.trans E4))
  | exit i =>
   obtain ⟨t4,d4,hb4,hz4,hsn4,hsr4,E4⟩:=hs3.sr.updLoop (st':=.done) (pend':=some (.exit i)) hg3 hl3;refine ⟨.bool false,_,by simp [Instr.endRound,run_getLoop hb4,run_setLoop hb4,Result.andThen]; rfl,?_⟩;exact hK μ3 _ _ _ hq3 (hsr.put (E3.trans E4) hsr4 hN rfl) (hE.trans (E3.trans E4))
  | goto l=>exact hq3.elim
  | panic ch=>exact hq3.elim
  | outgrown=>exact hq3.elim
 intro e w2 he
 cases e with
 | returned v=>exact he
 | _=>exact he.elim
theorem YCall.mono {id ver:Nat} {hs:List HV} {K K':HV→Heap→Prop} (h:YCall P id ver hs H K) (hk:∀ r H',K r H'→K' r H'):YCall P id ver hs H K':=by
 obtain ⟨f,n,snap,ps,assign,body,h1,h2,h3,h4⟩:=h;refine ⟨f,n,snap,ps,assign,body,h1,h2,h3,fun l=>(h4 l).mono ?_⟩
 rintro e s ⟨h5,h6,h7⟩
 refine ⟨h5,h6,h7.mono ?_⟩
 rintro e s ⟨h8,h9⟩
 refine ⟨h8,?_⟩
 cases e with
 | normal=>exact hk _ _ h9
 | ret=>exact hk _ _ h9
 | exit i=>exact hk _ _ h9
 | goto l=>exact h9.elim
 | panic ch=>exact h9.elim
 | outgrown=>exact h9.elim
theorem run_enterLoop (fn:FuncId) (tmps:Array Value) (ps:Array Tmp) (assign body:Code) (w:World):∃ wb,
  (Instr.enterLoop fn tmps ps assign body none).run P w=.ok (w.heap.size+1,[{ target:=.collected w.heap.size,args:=#[] }]) wb∧Grow w wb ∧
  wb.heap[w.heap.size+1]?=some (.loop { state:=.ready,pending:=none,fn:=fn,tmps:=tmps,params:=ps,assign:=assign,body:=body,defers:=w.heap.size }) ∧
  wb.heap[w.heap.size]?=some (.deferred (some []))∧w.heap.size+1<wb.heap.size:=by
 have hwa:(w.alloc (.deferred (some []))).heap.size=w.heap.size+1:=by show (w.heap.push _).size=_; simp
 refine ⟨(w.alloc (.deferred (some []))).alloc (.loop { state:=.ready,pending:=none,fn:=fn,tmps:=tmps,params:=ps,assign:=assign,body:=body,defers:=w.heap.size }),?_,(Grow.alloc w _).trans (Grow.alloc _ _),?_,?_,?_⟩
 ·simp [Instr.enterLoop,World.alloc_eq,Result.andThen]
 ·show ((w.alloc _).heap.push _)[w.heap.size+1]?=_
  rw [Array.getElem?_push,if_pos hwa.symm]
 ·rw [(Grow.alloc (w.alloc (.deferred (some []))) _).old _ (by omega)]
  show (w.heap.push _)[w.heap.size]?=_;simp
 show w.heap.size+1<((w.alloc _).heap.push _).size;rw [Array.size_push,hwa];omega
theorem AW.rangeFunc {Q:Exit→AS→Prop} {g:Operand} {ps:Array Tmp} {assign body:Code} {f:FuncId} {fs cs:List HV} (id:Nat) (hg:s.ev g=some (.fn (.func f) fs cs))
  (h:∀ fn ver,ACall P f (fs++[.yl id ver]++cs) (hset s.heap id ver (.loop .ready none fn N s.slots ps assign body)) fun _ H' =>
   ∃ st pend,hget H' id=some (ver,.loop st pend fn N s.slots ps assign body)∧st ≠ .busy∧match pend with
    | none=>Q .normal { s with heap:=hset H' id ver (.loop .exhausted none fn N s.slots ps assign body) }
    | some c=>AW P none N c Q { s with heap:=hset H' id ver (.loop .exhausted (some c) fn N s.slots ps assign body) }) :
  AW P none N (.rangeFunc g ps assign body) Q s:=by
 intro w0 μ0 μ a w hs hE;refine wpIn_rangeFunc (F:=fence none) fun fn _=>?_;obtain ⟨wb,hrun,gg,hlb,hdb,hsz⟩:=run_enterLoop (P:=P) fn a.tmps ps assign body w;have hE1:=Evo.repl (w':=wb) hs.sr id (some (w.heap.size+1)) gg.toSame gg.size (fun b hb _=>gg.old b hb) (fun b hb=>by cases hb; exact .inl (by omega))
 have hsr1:SR wb (μ.set id (some (w.heap.size+1))) (hset s.heap id μ.nx (.loop .ready none fn N s.slots ps assign body)):=by
  refine hs.sr.repl id (some (w.heap.size+1)) _ gg.toSame gg.size (fun b hb _=>gg.old b hb) (fun b hb=>by cases hb; exact .inl (by omega)) ?_;exact ⟨a.tmps,w.heap.size,hlb,hs.size,fun t hv ht=>⟨(hs.slot t hv ht).1,Rep.evo hE1 hs.sr.ok _ _ (hs.slot t hv ht).2⟩⟩
 obtain ⟨us,vs,he,h1,h2⟩:=hs.ev hg;have hcall:=h fn μ.nx;have hyl:Rep wb (μ.set id (some (w.heap.size+1))) (.yl id μ.nx) (Value.func (.yield (w.heap.size+1)) #[] #[]):=.inl ⟨w.heap.size+1,by simp [Mu.set],rfl⟩
 have hargs:RepL wb (μ.set id (some (w.heap.size+1))) (fs++[.yl id μ.nx]++cs) (us++[Value.func (.yield (w.heap.size+1)) #[] #[]]++vs) :=
  RepL.append (RepL.append (RepL.evo hE1 hs.sr.ok _ _ h1) ⟨_,[],rfl,hyl,rfl⟩) (RepL.evo hE1 hs.sr.ok _ _ h2)
 have hin:=(callsIn_wide (P:=P) (n:=0)).2 (hcall.2 _ wb _ hsr1 hargs (GlOk.evo hE1 hs.ro))
 refine ⟨w.heap.size+1,[{ target:=.collected w.heap.size,args:=#[] }],wb,{ target:=.fn (.func f) vs.toArray,args:=us.toArray ++ #[Value.func (.yield (w.heap.size+1)) #[] #[]] },wb,f,
  (us++[Value.func (.yield (w.heap.size+1)) #[] #[]]++vs).toArray,wb,hrun,?_,fun _ _=>trivial,?_,fun hd=>absurd (fence_depth none hd) (by omega),CallsIn.mono hin ?_⟩
 ·have hc:a.eval (.const (Value.func (.yield (w.heap.size+1)) #[] #[]))=Value.func (.yield (w.heap.size+1)) #[] #[]:=rfl
  simp [resolve,rangeCall,he,hc,Deferred.ofValue]
 ·simp only [invoke]
  rw [hcall.1];simp
 rintro e w3 ⟨v,r,H',μ',rfl,⟨st,pend,hg3,hst,hk⟩,hsr3,hr3,E3⟩
 have hl3:μ'.loc id=some (μ.nx,some (w.heap.size+1)):=by
  obtain ⟨l3,hl3,_⟩:=hsr3.has id _ _ hg3;have:=E3.loc id _ l3 hl3 (by simp [Mu.set]);simp only [Mu.set,if_true] at this;rw [hl3];exact this.symm
 obtain ⟨t4,d4,hb4,hz4,hsn4,hsr4,E4⟩:=hsr3.updLoop (st':=.exhausted) (pend':=pend) hg3 hl3
 have hend:∃ w4,(Instr.endLoop (w.heap.size+1)).run P w3=.ok pend w4∧SR w4 μ' (hset H' id μ.nx (.loop .exhausted pend fn N s.slots ps assign body))∧Evo w3 μ' w4 μ':=by
  refine ⟨_,?_,hsr4,E4⟩
  cases st with
  | busy=>exact absurd rfl hst
  | _=>simp [Instr.endLoop,run_getLoop hb4,run_setLoop hb4,Result.andThen]
 obtain ⟨w4,hrun4,hsr5,E5⟩:=hend;have E2:=E3.trans E5;have E:=hE1.trans E2;refine ⟨pend,w4,hrun4,?_⟩
 have hno:¬ (μ.set id (some (w.heap.size+1))).owned w.heap.size:=by
  rintro ⟨j,u,hj⟩
  simp only [Mu.set] at hj;split at hj
  ·simp at hj
  have:=hs.sr.blk hj; omega
 have hs4:SRel none N w0.heap.size μ' { s with heap:=hset H' id μ.nx (.loop .exhausted pend fn N s.slots ps assign body) } { a with defers:=[{ target:=.collected w.heap.size,args:=#[] }]++a.defers } w4:=by
  refine ⟨hs.size,hsr5,fun t hv ht=>⟨(hs.slot t hv ht).1,Rep.evo E hs.sr.ok _ _ (hs.slot t hv ht).2⟩,?_,hs.ro.evo E⟩;obtain ⟨rs,hd,hnd,hrs⟩:=hs.marks;obtain ⟨rs',hd',hnd',hrs'⟩:=hs.marks.evo E;refine ⟨w.heap.size::rs,by simp [hd],List.nodup_cons.2 ⟨fun hm=>?_,hnd⟩,fun r hr=>?_⟩
  ·have:=(Array.getElem?_eq_some_iff.1 (hrs _ hm).2.1).1
   omega
  rcases List.mem_cons.1 hr with rfl | hr
  ·exact ⟨hE.size,(E2.keep _ (by omega) hno).trans hdb,E2.owned_of (by omega) hno⟩
  obtain ⟨h6,h7,h8⟩:=hrs r hr;have hlt:=(Array.getElem?_eq_some_iff.1 h7).1;exact ⟨h6,(E.keep r hlt h8).trans h7,E.owned_of hlt h8⟩
 cases pend with
 | none=>exact ⟨(fun _ h=>by cases h),(fun h=>by cases h),_,_,hk,hs4,hE.trans E⟩
 | some c=>exact hk w0 μ0 μ' _ _ hs4 (hE.trans E)
end
end Go.AW
