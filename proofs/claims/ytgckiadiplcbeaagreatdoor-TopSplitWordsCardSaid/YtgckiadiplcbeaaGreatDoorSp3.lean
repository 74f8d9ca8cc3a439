import Derived.Test.YtgckiadiplcbeaaGreatDoorSp2
import Derived.DeepKeys3
import Derived.Lib.Bytealg
import Derived.Lib.SliceRun
import Derived.Lib.Slices
import Derived.Lib.Strings
import Derived.Lib.Walk
import Derived.Maps.Keyed
import Derived.Shelf.Slices.CompactI
import Derived.Shelf.SortM.Plain
import Derived.Shelf.SortM.SortNone
import Derived.Shelf.Strconv.Itoa3
import Derived.Test.YtgckiadiplcbeaaGreatDoorChecked
import Derived.Test.YtgckiadiplcbeaaGreatDoorProg
import Derived.WideKeyEntry
import Derived.WideKeyMaps
namespace Go.AW
open Go
section
variable {P:Program} {ro:Option Nat} {N:Nat} {s:AS} {ops:Array Oper} {o:Oper} {K:AS→Prop} {G:AS→Prop} {F:List Nat→AS→Prop} {L:List Nat}
def AnyL (P:Program) (ro:Option Nat) (N:Nat) (ops:Array Oper) (K:AS→Prop) (L:List Nat) (s:AS):Prop :=
 ∀ (w0:World) (μ0:Mu) (fuel:Nat) (listed:Array Bool) (μ1:Mu) (a1:Act) (w1:World),listed.size=ops.size→cnt listed≤fuel→(∀ i,i<ops.size→listed.getD i false=L.contains i) →
  SRel ro N w0.heap.size μ1 s a1 w1→Evo w0 μ0 w1 μ1→wpAnyIn (fence ro) 0 P .any ops (Post ro N (fun e s'=>e=.normal∧K s') w0 μ0) fuel listed a1 w1
def readyL (ops:Array Oper) (L:List Nat):List Nat:=(List.range ops.size).filter fun i=>!L.contains i && (da ops i).all L.contains
def allR:List Nat→(Nat→Prop)→Prop
 | [],_=>True
 | i::l,f=>f i∧allR l f
theorem allR_mem {f:Nat→Prop}:∀ {l:List Nat},allR l f→∀ i∈l,f i
 | [],_,_,h=>by cases h
 | j::l,h,i,hi=>by
  rcases List.mem_cons.1 hi with rfl | hi
  ·exact h.1
  exact allR_mem h.2 i hi
theorem l_step (hF:F=AnyL P ro N ops K) (hda:daOk ops=true) (rs:List Nat) (hr:readyL ops L=rs) (hne:rs.isEmpty=false) (h:allR rs fun i=>AOpI P ro N ops i (F (i::L)) s):F L s:=by
 subst hF;intro w0 μ0 fuel listed μ1 a1 w1 hl hc hlist hs hE;have hda':=daOk_spec hda
 obtain ⟨q,hq⟩:∃ q,q∈rs:=by
  cases rs with
  | nil=>cases hne
  | cons q l=>exact ⟨q,List.mem_cons_self ..⟩
 have hq':=hq;rw [← hr] at hq';simp only [readyL,List.mem_filter,List.mem_range,Bool.and_eq_true,Bool.not_eq_true',List.all_eq_true] at hq';obtain ⟨hqs,hqL,hqd⟩:=hq'
 have hqn:listed.getD q false=false:=by rw [hlist q hqs]; exact hqL
 cases fuel with
 | zero =>
  have:=cnt_pos (listed:=listed) (i:=q) (by rw [getD_tf (by omega)]; exact hqn);omega
 | succ fuel =>
  refine ⟨fun hr0=>?_,fun i hi=>?_⟩
  ·exfalso
   have:q∈Region.ready .any ops listed:=by
    refine mem_ready.2 ⟨by rw [getD_tf (by omega)]; exact hqn,ops[q],by simp [hqs],fun e he hb=>?_⟩
    have hk:e.on∈da ops q:=by
     simp only [da,Array.getElem?_eq_getElem hqs,List.mem_map,List.mem_filter];exact ⟨e,⟨by simpa using he,hb⟩,rfl⟩
    rw [hlist _ (Nat.lt_trans (hda' q hqs _ hk) hqs)];exact hqd _ hk
   rw [hr0] at this;cases this
  have hdone:=deps_done hi;obtain ⟨h0,o,ho,_⟩:=mem_ready.1 hi;have his:=(Array.getElem?_eq_some_iff.1 ho).1;have h0':=h0;rw [getD_tf (by omega),hlist i his] at h0'
  have hir:i∈rs:=by
   rw [← hr];simp only [readyL,List.mem_filter,List.mem_range,Bool.and_eq_true,Bool.not_eq_true',List.all_eq_true];refine ⟨his,h0',fun k hk=>?_⟩;rw [← hlist k (Nat.lt_trans (hda' i his k hk) his)];exact hdone k hk
  refine allR_mem h i hir w0 μ0 μ1 a1 w1 _ _ hs hE fun μ2 s2 a2 w2 hk hs2 hE2=>hk w0 μ0 fuel _ μ2 a2 w2 (by simp [hl]) ?_ (fun k hk=>?_) hs2 hE2
  ·have:=cnt_set (listed:=listed) (i:=i) h0
   omega
  by_cases hki:i=k
  ·subst hki
   have:i<listed.size:=by omega
   simp [this]
  rw [getD_set_ne false hki,hlist k hk];simp only [List.contains_cons]
  have:(k == i)=false:=by simpa using fun e=>hki e.symm
  rw [this,Bool.false_or]
theorem l_done (hF:F=AnyL P ro N ops K) (hda:daOk ops=true) (hall:(List.range ops.size).all L.contains=true) (h:K s):F L s:=by
 subst hF;intro w0 μ0 fuel listed μ1 a1 w1 hl hc hlist hs hE;have ha:AnyAt P ro N ops (fun e s'=>e=.normal∧K s') ops.size s:=AnyAt.done hda ⟨rfl,h⟩;refine ha w0 μ0 fuel listed μ1 a1 w1 hl hc (fun i hi=>?_) hs hE;rw [hlist i hi,decide_eq_true hi];exact List.all_eq_true.1 hall i (List.mem_range.2 hi)
theorem l_go {L':List Nat} {s':AS} (hF:F=AnyL P ro N ops K) (hsame:(List.range ops.size).all (fun i=>L.contains i == L'.contains i)=true) (h:F L' s') (hle:s.le s'):F L s:=by
 subst hF;intro w0 μ0 fuel listed μ1 a1 w1 hl hc hlist hs hE;refine h w0 μ0 fuel listed (μ1.cut s'.heap) a1 w1 hl hc (fun i hi=>?_) (hs.weaken hle) (hE.trans (Evo.cut w1 μ1 s'.heap));rw [hlist i hi];exact eq_of_beq (List.all_eq_true.1 hsame i (List.mem_range.2 hi))
theorem l_one {fid:Nat} {mt:List Nat} (hN:okd N o.dst=true) (h:aop P fid mt o (fun s'=>bops P ro N #[] [] G s') s):AOp P ro N o G s:=by
 have hk:AOp P ro N o _ s:=aop_sound hN h
 intro w0 μ0 μ a w next Q hs hE hK
 refine hk w0 μ0 μ a w next Q hs hE fun μ' s' a' w' h' hs' hE'=>?_
 have hb:=h' (by simp) 0 (fun k=>by simp);have:=hb w0 μ0 μ' a' w' (fun _ a w=>next a w) hs' hE' (fun μ2 s2 a2 w2 hk2 hs2 hE2=>hK μ2 s2 a2 w2 hk2 hs2 hE2)
 simpa only [List.length_nil,List.range'_zero,wpOpsIn] using this
theorem l_op {i:Nat} {fid:Nat} {mt:List Nat} (ho:ops[i]?=some o) (hg:o.guard=none) (hN:okd N o.dst=true) (h:aop P fid mt o (fun s'=>bops P ro N #[] [] G s') s):AOpI P ro N ops i G s:=AOpI.plain ho hg (l_one hN h)
theorem AW.dl {id:Nat} {Q:Exit→AS→Prop} (hm:P.follows .mixedOrders=true) (h:∀ K:AS→Prop,(∀ s',Q .normal s'→K s')→∀ F:List Nat→AS→Prop,F=AnyL P ro N ops K→F [] s):AW P ro N (.region id ops true) Q s:=by
 refine AW.conseq (Q':=fun e s'=>e=.normal∧Q .normal s') (AW.any hm ?_) fun e s1 ⟨he,h⟩=>he ▸ ⟨s1,AS.le_refl s1,h⟩;intro w0 μ0 fuel listed μ1 a1 w1 hl hc hlist hs hE;exact h (Q .normal) (fun _ h=>h) _ rfl w0 μ0 fuel listed μ1 a1 w1 hl hc (fun i hi=>by rw [hlist i hi]; simp) hs hE
theorem AW.dls {id:Nat} {y:Code} {Q:Exit→AS→Prop} (hm:P.follows .mixedOrders=true) (h:∀ K:AS→Prop,(∀ s',AW P ro N y Q s'→K s')→∀ F:List Nat→AS→Prop,F=AnyL P ro N ops K→F [] s):AW P ro N (.seq (.region id ops true) y) Q s :=
 AW.seq (AW.dl hm h)
end
def plainOp:Op→Bool
 | .move _ | .assign _ | .fieldAddr .. | .indexAddr .. => true
 | _=>false
section
variable {P:Program} {ro:Option Nat} {N B:Nat} {s:AS} {μ:Mu} {a:Act} {w:World}
theorem aval_free (hs:SRel ro N B μ s a w) (o:Oper) {R:HV→Prop} (hp:plainOp o.op=true) (h:aval P o.op s R) :
  ∃ v,∀ w',(execOp a.eval o).run P w'=.ok (.value v) w':=by
 unfold aval at h;split at h
 ·rename_i x hop
  exact ⟨a.eval x,fun w'=>by simp [execOp,hop]⟩
 ·rename_i x hop
  exact ⟨a.eval x,fun w'=>by simp [execOp,hop]⟩
 all_goals first
  | (rename_i hop; rw [hop] at hp; cases hp; done)
  | exact h.elim
  | skip
 ·rename_i S x f hop
  split at h
  ·rename_i o' T id ver off hf hx
   obtain ⟨fs,fd,hu,hfd,rfl,hT,h0⟩:=fieldOf_spec hf;obtain ⟨hlive,h⟩:=h
   rcases hs.ev hx with ⟨b,hl,he⟩ | ⟨hd,ad,he⟩
   ·exact ⟨.pointer (some ⟨b,off+fd.offset,none⟩),fun w'=>by simp [execOp,hop,he,Instr.fieldAt,Instr.sureAddr,hu,hfd,fieldPlace,ty_sizeOf hT,h0,Addr.add_lit]⟩
   exact absurd hd (hs.notDead hlive)
  ·rename_i o' T cs off hf hx
   obtain ⟨fs,fd,hu,hfd,rfl,hT,h0⟩:=fieldOf_spec hf;obtain ⟨h9,b,base,vs,he,ho,hsg,hl⟩:=hs.ev hx;exact ⟨.pointer (some ⟨b,base+(off+fd.offset),none⟩),fun w'=>by simp [execOp,hop,he,Instr.fieldAt,Instr.sureAddr,hu,hfd,fieldPlace,ty_sizeOf hT,h0,Addr.add_lit,Nat.add_assoc]⟩
  exact h.elim
 rename_i t x i hop
 split at h
 ·rename_i e sz by' z k' k n cs ki j hT hk hx hi
  obtain ⟨rfl,h0,h1,h⟩:=h;obtain ⟨hi',_⟩:=hs.ev hi;obtain ⟨h9,hcl,_,⟨hn0,_⟩ | ⟨b,off,cap,vs,he,hcap,ho,hsg,hl⟩⟩:=hs.ev hx
  ·omega
  have hu:=ty_under hT;have hz:=fun w=>elemSize_slice hT rfl hk w;exact ⟨.pointer (some ⟨b,off+j.toNat*k,none⟩),fun w'=>by simp [execOp,hop,he,hi',Instr.indexAt,asIntOf,hu,h0,h1,hz,Addr.add_lit]⟩
 ·rename_i e sz by' z k' id ver k off n ki j hT hk hx hi
  obtain ⟨rfl,h0,h1,hlive,h⟩:=h;obtain ⟨hi',_⟩:=hs.ev hi;have hu:=ty_under hT;have hz:=fun w=>elemSize_slice hT rfl hk w
  rcases hs.ev hx with ⟨l,hl,⟨_,_,hn,_⟩ | ⟨b,cap,cur,e',rfl,he,hnc,hcm,hrow,hsz⟩⟩ | ⟨hd,ad,m,c,he⟩
  ·omega
  ·exact ⟨.pointer (some ⟨b,off+j.toNat*k,none⟩),fun w'=>by simp [execOp,hop,he,hi',Instr.indexAt,asIntOf,hu,h0,h1,hz,Addr.add_lit]⟩
  exact absurd hd (hs.notDead hlive)
 ·rename_i len e sz by' z k' id ver off ki j hT hk hx hi
  obtain ⟨h0,h1,hlive,h⟩:=h;obtain ⟨hi',_⟩:=hs.ev hi;have hu:=ty_under hT;have hz:=fun w=>elemSize_array hT rfl hk w
  rcases hs.ev hx with ⟨b,hl,he⟩ | ⟨hd,ad,he⟩
  ·exact ⟨.pointer (some ⟨b,off+j.toNat*k',none⟩),fun w'=>by simp [execOp,hop,he,hi',Instr.indexAt,Instr.sureAddr,asIntOf,hu,h0,h1,hz,Addr.add_lit]⟩
  exact absurd hd (hs.notDead hlive)
 ·rename_i len e sz by' z k' cs off ki j hT hk hx hi
  obtain ⟨h0,h1,h⟩:=h;obtain ⟨hi',_⟩:=hs.ev hi;have hu:=ty_under hT;have hz:=fun w=>elemSize_array hT rfl hk w;obtain ⟨h9,b,base,vs,he,ho,hsg,hl⟩:=hs.ev hx;exact ⟨.pointer (some ⟨b,base+(off+j.toNat*k'),none⟩),fun w'=>by simp [execOp,hop,he,hi',Instr.indexAt,Instr.sureAddr,asIntOf,hu,h0,h1,hz,Addr.add_lit,Nat.add_assoc]⟩
 exact h.elim
end
section
variable {P:Program} {N:Nat} {s:AS} {ops:Array Oper} {o:Oper} {K:AS→Prop} {F:List Nat→AS→Prop} {L:List Nat}
def freeL (ops:Array Oper) (L:List Nat) (i:Nat):Bool:=match ops[i]? with
 | some oi=>(List.range ops.size).all fun j=>j == i || L.contains j || (da ops j).contains i || match ops[j]? with
  | some oj=>oi.apart ops oj
  | none=>true
 | none=>false
def noSel (ops:Array Oper):Bool:=ops.toList.all fun o=>match o.op with | .select .. => false | _=>true
theorem noSel_spec (h:noSel ops=true) (j:Nat) (o:Oper) (cs:Array SelectCase) (b:Bool) (ho:ops[j]?=some o):o.op ≠ .select cs b:=by
 intro heq;have hm:o∈ops.toList:=List.mem_of_getElem? (i:=j) (by rw [Array.getElem?_toList]; exact ho);have:=List.all_eq_true.1 h o hm;simp [heq] at this
def takeOk (N:Nat) (ops:Array Oper) (L:List Nat) (i:Nat):Bool:=match ops[i]? with
 | some o=>o.guard.isNone && okd N o.dst && plainOp o.op && noSel ops && !L.contains i && (da ops i).all L.contains && freeL ops L i && daOk ops
 | none=>false
theorem l_take {i d:Nat} {v:HV} {sl:List (Nat × HV)} {H:Heap} (hF:F=AnyL P none N ops K) (ho:ops[i]?=some o) (hc:takeOk N ops L i=true) (h0:(o.dst,isVal o.op)=(some d,true)) (hv:aval P o.op ⟨sl,H⟩ (· = v)) (k:F (i::L) ⟨(d,v)::sl,H⟩):F L ⟨sl,H⟩:=by
 subst hF;intro w0 μ0 fuel listed μ1 a1 w1 hl hcn hlist hs hE;unfold takeOk at hc;rw [ho] at hc;simp only [Bool.and_eq_true,Bool.not_eq_true',List.all_eq_true] at hc;obtain ⟨⟨⟨⟨⟨⟨⟨hg,hN⟩,hp⟩,hsel⟩,hiL⟩,hready⟩,hfree⟩,hda⟩:=hc;have hda':=daOk_spec hda;have his:i<ops.size:=(Array.getElem?_eq_some_iff.1 ho).1
 have hin:listed.getD i false=false:=by rw [hlist i his]; exact hiL
 have hg':o.guard=none:=by
  cases h:o.guard with
  | none=>rfl
  | some x=>rw [h] at hg; cases hg
 cases fuel with
 | zero =>
  have:=cnt_pos (listed:=listed) (i:=i) (by rw [getD_tf (by omega)]; exact hin);omega
 | succ fuel =>
  obtain ⟨u,hu⟩:=aval_free hs o hp hv;have hop:AOp P none N o (AnyL P none N ops K (i::L)) ⟨sl,H⟩:=l_one (fid:=0) (mt:=[]) hN (o_val h0 hv (b_nil k))
  have hwp:=hop w0 μ0 μ1 a1 w1 (fun a w=>wpAnyIn (fence none) 0 P .any ops (Post none N (fun e s'=>e=.normal∧K s') w0 μ0) fuel (listed.setIfInBounds i true) a w) (fun _ _ _=>False) hs hE (fun μ2 s2 a2 w2 hk hs2 hE2=>hk w0 μ0 fuel _ μ2 a2 w2 (by simp [hl]) (by
   have:=cnt_set (listed:=listed) (i:=i) (by rw [getD_tf (by omega)]; exact hin)
   omega) (fun k hk=>by
   by_cases hki:i=k
   ·subst hki
    have:i<listed.size:=by omega
    simp [this]
   rw [getD_set_ne false hki,hlist k hk];simp only [List.contains_cons]
   have:(k == i)=false:=by simpa using fun e=>hki e.symm
   rw [this,Bool.false_or]) hs2 hE2)
  have hnext:=hwp.2;rw [fence_round,Oper.semAt_none,hu w1] at hnext;refine wpAnyIn_first (oi:=o) (v:=u) (fence_round none) ho (noSel_spec hsel) (fun c a w hq=>absurd rfl (hq.1 c)) fuel listed a1 w1 (fun j oj hj hne hun hno=>?_) ?_ ⟨.inl ⟨?_,hu⟩,fun w=>?_⟩ hnext
  ·unfold freeL at hfree
   rw [ho] at hfree;have hjs:=(Array.getElem?_eq_some_iff.1 hj).1;have:=List.all_eq_true.1 hfree j (List.mem_range.2 hjs);simp only [Bool.or_eq_true,beq_iff_eq,hj] at this
   rcases this with ((h | h) | h) | h
   ·exact absurd h hne
   ·have hx:=hlist j hjs
    rw [getD_tf (by omega)] at hun;rw [hun,h] at hx;cases hx
   ·exfalso
    have h:i∈da ops j:=by simpa using h
    simp only [da,hj,List.mem_map,List.mem_filter] at h;obtain ⟨e,⟨he,hb⟩,hei⟩:=h;exact hno e (by simpa using he) hb hei
   exact h
  ·refine mem_ready.2 ⟨by rw [getD_tf (by omega)]; exact hin,o,ho,fun e he hb=>?_⟩
   have hk:e.on∈da ops i:=by
    simp only [da,ho,List.mem_map,List.mem_filter];exact ⟨e,⟨by simpa using he,hb⟩,rfl⟩
   rw [hlist _ (Nat.lt_trans (hda' i his _ hk) his)];exact hready _ hk
  ·unfold Region.wanted
   rw [hg']
  unfold Oper.about
  cases hh:o.op <;> first | rfl | (rw [hh] at hp; cases hp)
end
section
variable {P:Program} {N B:Nat} {s:AS} {ops:Array Oper} {o:Oper} {K:AS→Prop} {F:List Nat→AS→Prop} {L:List Nat}
def lit:HV→Bool
 | .int _ _ | .bool _ | .str _=>true
 | _=>false
def Free (P:Program) (o:Oper) (s:AS) (v:HV):Prop:=aval P o.op s (· = v)∧(∀ c,o.op ≠ .call c) ∧
 ∀ (B N:Nat) (μ:Mu) (a:Act) (w:World),SRel none N B μ s a w→∃ u,∀ w',(execOp a.eval o).run P w'=.ok (.value u) w'
theorem f_ext {x:Operand} {i:Nat} {vs:List HV} {hv:HV} (hop:o.op=.extract x i) (hx:s.ev x=some (.tup vs)) (h:vs[i]?=some hv):Free P o s hv:=by
 refine ⟨by rw [hop]; exact v_extract hx h,(fun c e=>by rw [hop] at e; cases e),fun B N μ a w hs=>?_⟩;obtain ⟨us,he,hl⟩:=hs.ev hx;obtain ⟨u,hu,hr⟩:=hl.get h;exact ⟨u,fun w'=>by simp [execOp,hop,he,Instr.extract,hu]⟩
def takeOkW (N:Nat) (ops:Array Oper) (L:List Nat) (i:Nat):Bool:=match ops[i]? with
 | some o=>o.guard.isNone && okd N o.dst && noSel ops && !L.contains i && (da ops i).all L.contains && freeL ops L i && daOk ops
 | none=>false
theorem l_takeW {i d:Nat} {v:HV} {sl:List (Nat × HV)} {H:Heap} (hF:F=AnyL P none N ops K) (ho:ops[i]?=some o) (hc:takeOkW N ops L i=true) (h0:(o.dst,isVal o.op)=(some d,true)) (hv:Free P o ⟨sl,H⟩ v) (k:F (i::L) ⟨(d,v)::sl,H⟩):F L ⟨sl,H⟩:=by
 subst hF;obtain ⟨hv,hnc,hfr⟩:=hv;intro w0 μ0 fuel listed μ1 a1 w1 hl hcn hlist hs hE;unfold takeOkW at hc;rw [ho] at hc;simp only [Bool.and_eq_true,Bool.not_eq_true',List.all_eq_true] at hc;obtain ⟨⟨⟨⟨⟨⟨hg,hN⟩,hsel⟩,hiL⟩,hready⟩,hfree⟩,hda⟩:=hc;have hda':=daOk_spec hda;have his:i<ops.size:=(Array.getElem?_eq_some_iff.1 ho).1
 have hin:listed.getD i false=false:=by rw [hlist i his]; exact hiL
 have hg':o.guard=none:=by
  cases h:o.guard with
  | none=>rfl
  | some x=>rw [h] at hg; cases hg
 cases fuel with
 | zero =>
  have:=cnt_pos (listed:=listed) (i:=i) (by rw [getD_tf (by omega)]; exact hin);omega
 | succ fuel =>
  obtain ⟨u,hu⟩:=hfr _ _ _ _ _ hs;have hop:AOp P none N o (AnyL P none N ops K (i::L)) ⟨sl,H⟩:=l_one (fid:=0) (mt:=[]) hN (o_val h0 hv (b_nil k))
  have hwp:=hop w0 μ0 μ1 a1 w1 (fun a w=>wpAnyIn (fence none) 0 P .any ops (Post none N (fun e s'=>e=.normal∧K s') w0 μ0) fuel (listed.setIfInBounds i true) a w) (fun _ _ _=>False) hs hE (fun μ2 s2 a2 w2 hk hs2 hE2=>hk w0 μ0 fuel _ μ2 a2 w2 (by simp [hl]) (by
   have:=cnt_set (listed:=listed) (i:=i) (by rw [getD_tf (by omega)]; exact hin)
   omega) (fun k hk=>by
   by_cases hki:i=k
   ·subst hki
    have:i<listed.size:=by omega
    simp [this]
   rw [getD_set_ne false hki,hlist k hk];simp only [List.contains_cons]
   have:(k == i)=false:=by simpa using fun e=>hki e.symm
   rw [this,Bool.false_or]) hs2 hE2)
  have hnext:=hwp.2;rw [fence_round,Oper.semAt_none,hu w1] at hnext;refine wpAnyIn_first (oi:=o) (v:=u) (fence_round none) ho (noSel_spec hsel) (fun c a w hq=>absurd rfl (hq.1 c)) fuel listed a1 w1 (fun j oj hj hne hun hno=>?_) ?_ ⟨.inl ⟨?_,hu⟩,fun w=>?_⟩ hnext
  ·unfold freeL at hfree
   rw [ho] at hfree;have hjs:=(Array.getElem?_eq_some_iff.1 hj).1;have:=List.all_eq_true.1 hfree j (List.mem_range.2 hjs);simp only [Bool.or_eq_true,beq_iff_eq,hj] at this
   rcases this with ((h | h) | h) | h
   ·exact absurd h hne
   ·have hx:=hlist j hjs
    rw [getD_tf (by omega)] at hun;rw [hun,h] at hx;cases hx
   ·exfalso
    have h:i∈da ops j:=by simpa using h
    simp only [da,hj,List.mem_map,List.mem_filter] at h;obtain ⟨e,⟨he,hb⟩,hei⟩:=h;exact hno e (by simpa using he) hb hei
   exact h
  ·refine mem_ready.2 ⟨by rw [getD_tf (by omega)]; exact hin,o,ho,fun e he hb=>?_⟩
   have hk:e.on∈da ops i:=by
    simp only [da,ho,List.mem_map,List.mem_filter];exact ⟨e,⟨by simpa using he,hb⟩,rfl⟩
   rw [hlist _ (Nat.lt_trans (hda' i his _ hk) his)];exact hready _ hk
  ·unfold Region.wanted
   rw [hg']
  unfold Oper.about;split
  ·rename_i c h; exact absurd h (hnc c)
  rfl
end
theorem loopN {S X:Type} {body:S→Option (Stp S X)} {Q:X→Prop} (n:Nat) (I:Nat→S→Prop)
  (step:∀ i s,i<n→I i s→(∃ s',body s=some (.next s')∧I (i+1) s')∨∃ x,body s=some (.exit x)∧Q x) (fin:∀ s,I n s→∃ x,body s=some (.exit x)∧Q x) :
  ∀ (k:Nat) (s:S),k≤n→I k s→∃ x,loopW body s=some x∧Q x:=by
 intro k s hk h;obtain ⟨d,rfl⟩:∃ d,n=k+d:=⟨n - k,by omega⟩
 induction d generalizing k s with
 | zero =>
  obtain ⟨x,h1,h2⟩:=fin s h;exact ⟨x,loopW_exit h1,h2⟩
 | succ d ih =>
  rcases step k s (by omega) h with ⟨s',h1,h2⟩ | ⟨x,h1,h2⟩
  ·have e:k+(d+1)=(k+1)+d:=by omega
   rw [e] at step fin;obtain ⟨x,h3,h4⟩:=ih (k+1) s' h2 step fin (by omega);exact ⟨x,by rw [loopW_next h1]; exact h3,h4⟩
  exact ⟨x,loopW_exit h1,h2⟩
theorem loop_any {S X:Type} {body:S→Option (Stp S X)} (st:Nat→S) (n:Nat) (p:Nat→Bool) (xr xf:X) (h:∀ i,i<n→body (st i)=if p i=true then some (.exit xr) else some (.next (st (i+1)))) (hf:body (st n)=some (.exit xf)) {s0:S} (hs0:s0=st 0) :
  loopW body s0=some (if (List.range n).any p=true then xr else xf):=by
 subst hs0
 obtain ⟨x,hx,hq⟩:=loopN (body:=body) (Q:=fun x=>x=if (List.range n).any p=true then xr else xf) n (fun i s=>s=st i∧(List.range i).any p=false) (fun i s hi ⟨hs,ha⟩=>by
  subst hs;rw [h i hi];by_cases hp:p i=true
  ·refine .inr ⟨xr,by rw [if_pos hp],?_⟩
   rw [if_pos];exact List.any_eq_true.2 ⟨i,List.mem_range.2 hi,hp⟩
  refine .inl ⟨_,by rw [if_neg hp],rfl,?_⟩;rw [List.range_succ,List.any_append,ha]
  simpa using hp) (fun s ⟨hs,ha⟩=>by subst hs; exact ⟨xf,hf,by rw [if_neg]; rw [ha]; simp⟩) 0 (st 0) (Nat.zero_le _) ⟨rfl,rfl⟩
 rw [hx,hq]
theorem loop_is {S X:Type} {body:S→Option (Stp S X)} (st:Nat→S) (n:Nat) (x:X) (h:∀ i,i<n→body (st i)=some (.next (st (i+1)))) (hf:body (st n)=some (.exit x)) {s0:S} (hs0:s0=st 0):loopW body s0=some x:=by
 subst hs0;obtain ⟨y,hy,hq⟩:=loopN (body:=body) (Q:=fun y=>y=x) n (fun i s=>s=st i) (fun i s hi hs=>by subst hs; exact .inl ⟨_,h i hi,rfl⟩) (fun s hs=>by subst hs; exact ⟨x,hf,rfl⟩) 0 (st 0) (Nat.zero_le _) rfl;rw [hy,hq]
theorem bindL {X R:Type} {o:Option X} {x:X} {M:X→Option R} {r:Option R} (h:o=some x) (k:M x=r):o.bind M=r:=by rw [h]; exact k
theorem lpL {V R Y:Type} {o:Option (Ou V R)} {x:Ou V R} {M:V→Option Y} {Rt:R→Option Y} {r:Option Y} (h:o=some x) (k:lpO (some x) M Rt=r):lpO o M Rt=r:=by rw [h]; exact k
theorem nx {i n:Nat} (hn:n≤9223372036854775807) (h:i<n):IntKind.wrap .i64 ((i:Int)+1)=((i+1:Nat):Int):=by
 rw [w64 (by omega) (by omega)]; omega
theorem ix {α:Type} {l:List α} {i:Nat} (h:i<l.length):idx l (i:Int)=some l[i]:=by rw [idx_nat,List.getElem?_eq_getElem h]
theorem ix0 {α:Type} {l:List α} (h:0<l.length):idx l 0=some l[0]:=ix h
theorem lt_int {i n:Nat} (h:i<n):(i:Int)<(n:Int):=by omega
theorem not_lt_int (n:Nat):¬ (n:Int)<(n:Int):=by omega
abbrev TFromLabelTo:=Int × Int × Int
abbrev cFromLabelTo (x:TFromLabelTo):List HV:=[HV.int .i64 x.1,HV.int .i64 x.2.1,HV.int .i64 x.2.2]
abbrev eFromLabelTo:EncL TFromLabelTo:=encF 3 cFromLabelTo (fun _=>rfl)
abbrev TLabelsStatesEdges:=Int × Int × (List (TFromLabelTo))
abbrev cLabelsStatesEdges (x:TLabelsStatesEdges):List HV:=[HV.int .i64 x.1,HV.int .i64 x.2.1,slE eFromLabelTo x.2.2]
abbrev eLabelsStatesEdges:EncL TLabelsStatesEdges:=encF 3 cLabelsStatesEdges (fun _=>rfl)
abbrev compact_ (l:List Int):List Int:=Lib.compact l
theorem compact_le (l:List Int):(compact_ l).length≤l.length:=by
 show (Lib.compactUpTo l.toArray l.length).length≤l.length;unfold Lib.compactUpTo;rw [List.length_map];exact Nat.le_trans (List.length_filter_le _ _) (by simp)
theorem compact_mem {l:List Int} {x:Int} (h:x∈compact_ l):x∈l:=by
 have h:x∈Lib.compactUpTo l.toArray l.length:=h;unfold Lib.compactUpTo at h;obtain ⟨j,hj,rfl⟩:=List.mem_map.1 h;have hj:=List.mem_range.1 (List.mem_filter.1 hj).1
 have:l.toArray[j]! = l[j]:=by simp [hj]
 rw [this];exact List.getElem_mem hj
noncomputable def m_strings_IndexByte (l:List UInt8) (c:Int):Option Int:=some (Lib.indexByte l c.toNat.toUInt8)
def leaveL (es:List TFromLabelTo) (s:Int):List (Int × TFromLabelTo):=(es.zipIdx.filter fun p=>decide (p.1.1=s)).map fun p=>((p.2:Int),p.1)
theorem leaveL_take (es:List TFromLabelTo) (s:Int) {i:Nat} (h:i<es.length):leaveL (es.take (i+1)) s=leaveL (es.take i) s++if es[i].1=s then [((i:Int),es[i])] else []:=by
 have e:es.take (i+1)=es.take i++[es[i]]:=by rw [List.take_add_one,List.getElem?_eq_getElem h]; rfl
 rw [e];simp only [leaveL,List.zipIdx_append,List.filter_append,List.map_append,List.length_take,Nat.min_eq_left (Nat.le_of_lt h),Nat.zero_add]
 congr 1
 by_cases hs:es[i].1=s <;> simp [List.zipIdx_cons,hs]
theorem leaveL_split (es:List TFromLabelTo) (s:Int):∀ (i:Nat),∃ rest,leaveL es s=leaveL (es.take i) s++rest:=fun i=>by
 refine ⟨((es.drop i).zipIdx (es.take i).length |>.filter fun p=>decide (p.1.1=s)).map fun p=>((p.2:Int),p.1),?_⟩
 conv=>lhs; rw [← List.take_append_drop i es]
 simp only [leaveL,List.zipIdx_append,List.filter_append,List.map_append,Nat.zero_add]
def y_graph_leaving (g:TLabelsStatesEdges) (s:Int):Option (List (Int × TFromLabelTo)):=if g.2.2.length≤9223372036854775807 then some (leaveL g.2.2 s) else none
set_option linter.unusedVariables false
abbrev TWordEnds:=(List UInt8) × (List (Int))
noncomputable def m_graph_list (p0:TFromLabelTo):Option ((List (Int))) :=
 some [p0.1,p0.2.1,p0.2.2]
noncomputable def m_cmp_isNaN_int (p0:Int):Option (Bool) :=
 some (decide (p0≠p0))
noncomputable def m_cmp_Compare_int (p0:Int) (p1:Int):Option (Int) :=
 (m_cmp_isNaN_int p0).bind fun x1 =>
 (m_cmp_isNaN_int p1).bind fun x3 =>
 if x1=true then
  if x3=true then
   some 0
  else
   some (-1)
 else
  if x3=true then
   some 1
  else
   if p0<p1 then
    some (-1)
   else
    if p1<p0 then
     some 1
    else
     some 0
noncomputable def m_slices_Compare_Lint_int (p0:List (Int)) (p1:List (Int)):Option (Int) :=
 lpO (loopW (S:=Int) (X:=Ou (Unit) (Int)) (fun a1 =>
   if a1<((p0).length:Int) then
    (idx p0 a1).bind fun x5 =>
    if ((p1).length:Int)≤a1 then
     some (Stp.exit (Ou.ret 1))
    else
     (idx p1 a1).bind fun x7 =>
     (m_cmp_Compare_int x5 x7).bind fun x9 =>
     if x9≠0 then
      some (Stp.exit (Ou.ret x9))
     else
      some (Stp.next (IntKind.wrap .i64 (a1+1)))
   else
    some (Stp.exit (Ou.go ()))) 0) (fun a11 =>
   if ((p0).length:Int)<((p1).length:Int) then
    some (-1)
   else
    some 0) some
noncomputable def m_graph_by_api_Edge_1 (p0:TFromLabelTo) (p1:TFromLabelTo):Option (Int) :=
 (m_graph_list p0).bind fun x1 =>
 (m_graph_list p1).bind fun x3 =>
 (m_slices_Compare_Lint_int x1 x3).bind fun x5 =>
 some x5
noncomputable def m_graph_Check (p0:TLabelsStatesEdges):Option (Int) :=
 jp (fun (a1 : Bool) =>
  if a1=true then
   some 12
  else
   if p0.2.1<0 then
    some 2
   else
    jp (fun (a4:Bool) =>
     if a4=true then
      some 4
     else
      lpO (loopW (S:=Int) (X:=Ou (Unit) (Int)) (fun a7 =>
        if a7<((p0.2.2).length:Int) then
         (idx p0.2.2 a7).bind fun x11 =>
         jp (fun (a14:Bool) =>
          if a14=true then
           some (Stp.exit (Ou.ret 2))
          else
           jp (fun (a17:Bool) =>
            if a17=true then
             some (Stp.exit (Ou.ret 10))
            else
             some (Stp.next (IntKind.wrap .i64 (a7+1))))
            fun k19 =>
            if 0<a7 then
             (idx p0.2.2 (IntKind.wrap .i64 (a7 - 1))).bind fun x20 =>
             (m_graph_by_api_Edge_1 x20 x11).bind fun x22 =>
             k19 (decide (0≤x22))
            else
             k19 false)
          fun k16 =>
          if (min (min x11.1 x11.2.1) x11.2.2)<0 then
           k16 true
          else
           if p0.2.1≤(max x11.1 x11.2.2) then
            k16 true
           else
            k16 (decide (p0.1≤x11.2.1))
        else
         some (Stp.exit (Ou.go ()))) 0) (fun a27 =>
        some 0) some)
     fun k6 =>
     if 64<p0.2.1 then
      k6 true
     else
      k6 (decide (1024<((p0.2.2).length:Int))))
  fun k3 =>
  if p0.1<1 then
   k3 true
  else
   k3 (decide (256<p0.1))
noncomputable def m_graph_checkSet (p0:TLabelsStatesEdges) (p1:List (Int)):Option (Int) :=
 lpO (loopW (S:=Int) (X:=Ou (Unit) (Int)) (fun a1 =>
   if a1<((p1).length:Int) then
    (idx p1 a1).bind fun x5 =>
    jp (fun (a7:Bool) =>
     if a7=true then
      some (Stp.exit (Ou.ret 25))
     else
      jp (fun (a10:Bool) =>
       if a10=true then
        some (Stp.exit (Ou.ret 10))
       else
        some (Stp.next (IntKind.wrap .i64 (a1+1))))
       fun k12 =>
       if 0<a1 then
        (idx p1 (IntKind.wrap .i64 (a1 - 1))).bind fun x13 =>
        k12 (decide (x5≤x13))
       else
        k12 false)
     fun k9 =>
     if x5<0 then
      k9 true
     else
      k9 (decide (p0.2.1≤x5))
   else
    some (Stp.exit (Ou.go ()))) 0) (fun a17 =>
   some 0) some
noncomputable def m_graph_Step (p0:TLabelsStatesEdges) (p1:List (Int)) (p2:Int):Option ((List (Int)) × Int) :=
 (m_graph_Check p0).bind fun x1 =>
 if x1≠0 then
  some ([],1)
 else
  (m_graph_checkSet p0 p1).bind fun x3 =>
  if x3≠0 then
   some ([],x3)
  else
   jp (fun (a5:Bool) =>
    if a5=true then
     some ([],2)
    else
     (loopW (S:=Int × (List Int)) (X:=(List Int)) (fun a9 =>
       if a9.1<((p1).length:Int) then
        (idx p1 a9.1).bind fun x13 =>
        (y_graph_leaving p0 x13).bind fun L15 =>
        lpO (forL (S:=(List Int)) (X:=Unit) (fun a17 (x19:Int × TFromLabelTo) =>
          if x19.2.2.1=p2 then
           if fits 8 ((a17:List Int).length+([x19.2.2.2]).length) then
            some (Stp.next (a17++[x19.2.2.2]))
           else none
          else
           some (Stp.next a17)) L15 a9.2) (fun a26 =>
          some (Stp.next (IntKind.wrap .i64 (a9.1+1),a26))) fun a28 =>
          none
       else
        some (Stp.exit a9.2)) (0,([]:List Int))).bind fun a31 =>
     if (a31).length<4611686018427387904 then
      some (compact_ (sortI a31),0)
     else none)
    fun k7 =>
    if p2<0 then
     k7 true
    else
     k7 (decide (p0.1≤p2))
noncomputable def m_ref09_Compare (p0:TFromLabelTo) (p1:TFromLabelTo):Option (Int) :=
 lpO (loopW (S:=Int) (X:=Ou (Unit) (Int)) (fun a1 =>
   if a1<3 then
    (idx [p0.1,p0.2.1,p0.2.2] a1).bind fun x5 =>
    (idx [p1.1,p1.2.1,p1.2.2] a1).bind fun x7 =>
    if x5<x7 then
     some (Stp.exit (Ou.ret (-1)))
    else
     (idx [p0.1,p0.2.1,p0.2.2] a1).bind fun x9 =>
     (idx [p1.1,p1.2.1,p1.2.2] a1).bind fun x11 =>
     if x11<x9 then
      some (Stp.exit (Ou.ret 1))
     else
      some (Stp.next (IntKind.wrap .i64 (a1+1)))
   else
    some (Stp.exit (Ou.go ()))) 0) (fun a13 =>
   some 0) some
noncomputable def m_ref09_Check (p0:TLabelsStatesEdges):Option (Int) :=
 jp (fun (a1 : Bool) =>
  if a1=true then
   some 12
  else
   if p0.2.1<0 then
    some 2
   else
    jp (fun (a4:Bool) =>
     if a4=true then
      some 4
     else
      lpO (loopW (S:=Int) (X:=Ou (Unit) (Int)) (fun a7 =>
        if a7 < ((p0.2.2).length:Int) then
         (idx p0.2.2 a7).bind fun x11 =>
         jp (fun (a14:Bool) =>
          if a14=true then
           some (Stp.exit (Ou.ret 2))
          else
           jp (fun (a17:Bool) =>
            if a17=true then
             some (Stp.exit (Ou.ret 10))
            else
             some (Stp.next (IntKind.wrap .i64 (a7+1))))
            fun k19 =>
            if 0<a7 then
             (idx p0.2.2 (IntKind.wrap .i64 (a7 - 1))).bind fun x20 =>
             (m_ref09_Compare x20 x11).bind fun x22 =>
             k19 (decide (0≤x22))
            else
             k19 false)
          fun k16 =>
          if x11.1<0 then
           k16 true
          else
           if p0.2.1≤x11.1 then
            k16 true
           else
            if x11.2.2<0 then
             k16 true
            else
             if p0.2.1≤x11.2.2 then
              k16 true
             else
              if x11.2.1<0 then
               k16 true
              else
               k16 (decide (p0.1≤x11.2.1))
        else
         some (Stp.exit (Ou.go ()))) 0) (fun a30 =>
        some 0) some)
     fun k6 =>
     if 64<p0.2.1 then
      k6 true
     else
      k6 (decide (1024<((p0.2.2).length:Int))))
  fun k3 =>
  if p0.1<1 then
   k3 true
  else
   k3 (decide (256<p0.1))
noncomputable def m_ref11_check (p0:TLabelsStatesEdges):Option (Int) :=
 (m_ref09_Check p0).bind fun x1 =>
 if x1≠0 then
  some 1
 else
  if 16<p0.1 then
   some 12
  else
   some 0
noncomputable def m_ref11_checkNumber (p0:TLabelsStatesEdges) (p1:Int):Option (Int) :=
 (m_ref11_check p0).bind fun x1 =>
 if x1≠0 then
  some x1
 else
  jp (fun (a3:Bool) =>
   if a3=true then
    some 2
   else
    some 0)
   fun k5 =>
   if p1<0 then
    k5 true
   else
    k5 (decide (4096<p1))
noncomputable def m_ref11_has (p0:List (Int)) (p1:Int):Option (Bool) :=
 lpO (loopW (S:=Int) (X:=Ou (Unit) (Bool)) (fun a1 =>
   if a1<((p0).length:Int) then
    (idx p0 a1).bind fun x5 =>
    if x5=p1 then
     some (Stp.exit (Ou.ret true))
    else
     some (Stp.next (IntKind.wrap .i64 (a1+1)))
   else
    some (Stp.exit (Ou.go ()))) 0) (fun a7 =>
   some false) some
noncomputable def m_ref11_Step (p0:TLabelsStatesEdges) (p1:List (Int)) (p2:Int):Option ((List (Int))) :=
 (loopW (S := Int × (List Int)) (X:=(List Int)) (fun a2 =>
   if a2.1 < p0.2.1 then
    jp (fun (a6:(List Int)) =>
     some (Stp.next (IntKind.wrap .i64 (a2.1+1),a6)))
     fun k8 =>
     (loopW (S:=Bool × Int) (X:=Bool) (fun a9 =>
       if a9.2<((p0.2.2).length:Int) then
        jp (fun (a13:Bool) =>
         some (Stp.next (a13,IntKind.wrap .i64 (a9.2+1))))
         fun k15 =>
         jp (fun (a16:Bool) =>
          if a16=true then
           k15 true
          else
           k15 a9.1)
          fun k18 =>
          (idx p0.2.2 a9.2).bind fun x19 =>
          if x19.2.2=a2.1 then
           (idx p0.2.2 a9.2).bind fun x21 =>
           if x21.2.1=p2 then
            (idx p0.2.2 a9.2).bind fun x23 =>
            (m_ref11_has p1 x23.1).bind fun x25 =>
            k18 x25
           else
            k18 false
          else
           k18 false
       else
        some (Stp.exit a9.1)) (false,0)).bind fun a29 =>
     if a29=true then
      if fits 8 ((a2.2:List Int).length+([a2.1]).length) then
       k8 (a2.2++[a2.1])
      else none
     else
      k8 a2.2
   else
    some (Stp.exit a2.2)) (0,[])).bind fun a33 =>
 some a33
noncomputable def m_ref11_grow (p0:TLabelsStatesEdges) (p1:List (TWordEnds)):Option ((List (TWordEnds))) :=
 (loopW (S := Int × (List TWordEnds)) (X:=(List TWordEnds)) (fun a2 =>
   if a2.1 < ((p1).length:Int) then
    (loopW (S:=Int × (List TWordEnds)) (X:=(List TWordEnds)) (fun a6 =>
      if a6.1<p0.1 then
       jp (fun (a10:(List TWordEnds)) =>
        some (Stp.next (IntKind.wrap .i64 (a6.1+1),a10)))
        fun k12 =>
        (idx p1 a2.1).bind fun x13 =>
        (m_ref11_Step p0 x13.2 a6.1).bind fun x15 =>
        if 0<((x15).length:Int) then
         (idx p1 a2.1).bind fun x17 =>
         if 0≤(a6.1:Int)∧(a6.1:Int)≤IntKind.wrap .i64 (a6.1+1)∧IntKind.wrap .i64 (a6.1+1)≤(([48,49,50,51,52,53,54,55,56,57,97,98,99,100,101,102]:List UInt8).length:Int) then
          if x17.1.length+((([48,49,50,51,52,53,54,55,56,57,97,98,99,100,101,102]:List UInt8).take (IntKind.wrap .i64 (a6.1+1)).toNat).drop (a6.1).toNat).length≤maxLen then
           if fits 40 ((a6.2:List TWordEnds).length+([(x17.1++((([48,49,50,51,52,53,54,55,56,57,97,98,99,100,101,102]:List UInt8).take (IntKind.wrap .i64 (a6.1+1)).toNat).drop (a6.1).toNat),x15)]).length) then
            k12 (a6.2++[(x17.1++((([48,49,50,51,52,53,54,55,56,57,97,98,99,100,101,102]:List UInt8).take (IntKind.wrap .i64 (a6.1+1)).toNat).drop (a6.1).toNat),x15)])
           else none
          else none
         else none
        else
         k12 a6.2
      else
       some (Stp.exit a6.2)) (0,a2.2)).bind fun a23 =>
    some (Stp.next (IntKind.wrap .i64 (a2.1+1),a23))
   else
    some (Stp.exit a2.2)) (0,[])).bind fun a25 =>
 some a25
noncomputable def m_ref11_words (p0:TLabelsStatesEdges) (p1:List (Int)) (p2:Int):Option ((List (TWordEnds)) × Int) :=
 jp (fun (a2:(List TWordEnds)) =>
  lpO (loopW (S:=(List TWordEnds) × Int) (X:=Ou ((List TWordEnds)) ((List (TWordEnds)) × Int)) (fun a5 =>
    jp (fun (a9:Bool) =>
     if a9=true then
      (m_ref11_grow p0 a5.1).bind fun x12 =>
      if 4096<((x12).length:Int) then
       some (Stp.exit (Ou.ret ([],4)))
      else
       some (Stp.next (x12,IntKind.wrap .i64 (a5.2+1)))
     else
      some (Stp.exit (Ou.go a5.1)))
     fun k11 =>
     if a5.2<p2 then
      k11 (decide (0<((a5.1).length:Int)))
     else
      k11 false) (a2,0)) (fun a15 =>
    some (a15,0)) some)
  fun k4 =>
  if 0<((p1).length:Int) then
   if fits 40 (([]:List TWordEnds).length+([(([]:List UInt8),p1)]).length) then
    k4 (([]:List TWordEnds)++[(([]:List UInt8),p1)])
   else none
  else
   k4 []
noncomputable def m_ref11_All (p0:TLabelsStatesEdges):Option ((List (Int))) :=
 (loopW (S:=Int × (List Int)) (X:=(List Int)) (fun a2 =>
   if a2.1<p0.2.1 then
    if fits 8 ((a2.2:List Int).length+([a2.1]).length) then
     some (Stp.next (IntKind.wrap .i64 (a2.1+1),a2.2++[a2.1]))
    else none
   else
    some (Stp.exit a2.2)) (0,[])).bind fun a8 =>
 some a8
noncomputable def m_ref11_texts (p0:List (TWordEnds)):Option ((List (List UInt8))) :=
 (loopW (S:=Int × (List (List UInt8))) (X:=(List (List UInt8))) (fun a2 =>
   if a2.1<((p0).length:Int) then
    (idx p0 a2.1).bind fun x6 =>
    if fits 16 ((a2.2:List (List UInt8)).length+([x6.1]).length) then
     some (Stp.next (IntKind.wrap .i64 (a2.1+1),a2.2++[x6.1]))
    else none
   else
    some (Stp.exit a2.2)) (0,[])).bind fun a10 =>
 some a10
noncomputable def m_ref11_Words (p0:TLabelsStatesEdges) (p1:Int):Option ((List (List UInt8)) × Int) :=
 (m_ref11_checkNumber p0 p1).bind fun x1 =>
 if x1≠0 then
  some ([],x1)
 else
  (m_ref11_All p0).bind fun x3 =>
  (m_ref11_words p0 x3 p1).bind fun x5 =>
  if x5.2≠0 then
   some ([],x5.2)
  else
   (m_ref11_texts x5.1).bind fun x7 =>
   some (x7,0)
noncomputable def m_language_step (p0:TLabelsStatesEdges) (p1:List (Int)) (p2:Int):Option ((List (Int))) :=
 (m_strings_IndexByte [48,49,50,51,52,53,54,55,56,57,97,98,99,100,101,102] p2).bind fun x1 =>
 (m_graph_Step p0 p1 x1).bind fun x3 =>
 some x3.1
noncomputable def m_language_states (p0:TLabelsStatesEdges):Option ((List (Int))) :=
 if 0≤(p0.2.1:Int)∧(p0.2.1:Int)≤p0.2.1∧(p0.2.1:Int)*8≤281474976710656 then
  (loopW (S:=Int × (List Int)) (X:=(List Int)) (fun a3 =>
    if a3.1<(((List.replicate (p0.2.1).toNat (0:Int)).length:Nat):Int) then
     (idx a3.2 a3.1).bind fun x7 =>
     some (Stp.next (IntKind.wrap .i64 (a3.1+1),(a3.2).set (a3.1).toNat a3.1))
    else
     some (Stp.exit a3.2)) (0,List.replicate (p0.2.1).toNat (0:Int))).bind fun a9 =>
  some a9
 else none
noncomputable def m_language_check (p0:TLabelsStatesEdges):Option (Int) :=
 (m_graph_Check p0).bind fun x1 =>
 if x1≠0 then
  some 1
 else
  if 16<p0.1 then
   some 12
  else
   some 0
noncomputable def m_language_lengths (p0:TLabelsStatesEdges) (p1:Int):Option (Int) :=
 (m_language_check p0).bind fun x1 =>
 if x1≠0 then
  some x1
 else
  jp (fun (a3:Bool) =>
   if a3=true then
    some 2
   else
    some 0)
   fun k5 =>
   if p1<0 then
    k5 true
   else
    k5 (decide (4096<p1))
abbrev TNegMag:=Bool × (List UInt8)
abbrev TNumDen:=TNegMag × TNegMag
abbrev cNumDen (x:TNumDen):List HV:=[HV.bool x.1.1,HV.str x.1.2,HV.bool x.2.1,HV.str x.2.2]
abbrev hI (n:Int):HV:=.int .i64 n
abbrev nS:List UInt8:=[]
abbrev jF (j:List (List UInt8) × List (List UInt8)):HV:=.fptr [slE eStr j.1,slE eStr j.2] 0
abbrev jA (j:List (List UInt8) × List (List UInt8)):HV:=.agg [slE eStr j.1,slE eStr j.2]
abbrev gF (g:TLabelsStatesEdges):HV:=.fptr [.int .i64 g.1,.int .i64 g.2.1,slE eFromLabelTo g.2.2] 0
abbrev gA (g:TLabelsStatesEdges):HV:=.agg [.int .i64 g.1,.int .i64 g.2.1,slE eFromLabelTo g.2.2]
abbrev zND:List HV:=[.bool false,.str [],.bool false,.str []]
theorem to_L {s s':AS} {G:AS→Prop} (h:G s') (h1:gets s.slots s'.slots=somes s'.slots:=by exact rfl) (h2:hgets s.heap s'.heap=hsomes s'.heap:=by exact rfl):s.to G:=to_le (le_q h1 h2) h
theorem bf {P:Program} {ro:Option Nat} {N:Nat} {all:Array Oper} {s:AS} {c:Code} {Q:Exit→AS→Prop} {K:AS→Prop} (hK:∀ s',AW P ro N c Q s'→K s') (s':AS) (h:AW P ro N c Q s') (h1:gets s.slots s'.slots=somes s'.slots:=by exact rfl) (h2:hgets s.heap s'.heap=hsomes s'.heap:=by exact rfl):bops P ro N all [] K s:=b_fin hK (le_q h1 h2) h
theorem lg {P:Program} {ro:Option Nat} {N:Nat} {ops:Array Oper} {s s':AS} {K:AS→Prop} {F:List Nat→AS→Prop} {L L':List Nat} (hF:F=AnyL P ro N ops K) (h:F L' s') (hsame:(List.range ops.size).all (fun i=>L.contains i == L'.contains i)=true:=by exact rfl) (h1:gets s.slots s'.slots=somes s'.slots:=by exact rfl) (h2:hgets s.heap s'.heap=hsomes s'.heap:=by exact rfl):F L s:=l_go hF hsame h (le_q h1 h2)
theorem cT {p:Prop} [Decidable p] {R:Type} {a b:Option R} {r:R} (hc:decide p=true) (h:(if p then a else b)=some r):p∧a=some r:=⟨of_decide_eq_true hc,ifT (of_decide_eq_true hc) h⟩
theorem cF {p:Prop} [Decidable p] {R:Type} {a b:Option R} {r:R} (hc:decide p=false) (h:(if p then a else b)=some r):¬ p∧b=some r:=⟨of_decide_eq_false hc,ifF (of_decide_eq_false hc) h⟩
theorem lb {n m:Nat} (h:Nat.ble n m=true):n≤m:=Nat.le_of_ble_eq_true h
theorem l_ov {P:Program} {ro:Option Nat} {N i d:Nat} {ops:Array Oper} {o:Oper} {G:AS→Prop} {v:HV} {sl:List (Nat × HV)} {H:Heap} (ho:ops[i]?=some o) (hg:o.guard=none) (hN:okd N o.dst=true) (h0:(o.dst,isVal o.op)=(some d,true)) (hv:aval P o.op ⟨sl,H⟩ (· = v)) (k:G ⟨(d,v)::sl,H⟩):AOpI P ro N ops i G ⟨sl,H⟩:=l_op (fid:=0) (mt:=[]) ho hg hN (o_val h0 hv (b_nil k))
theorem oi {α:Type} {a b:α} (h:some a=some b):a=b:=Option.some.inj h
abbrev ASf:=List (Nat × HV)→Heap→AS
end Go.AW
namespace Go.Proofs
open Go
def Tryz.itoa_ren:Go.Shelf.Ren:=⟨fun | 171=>78 | 243=>101 | 246=>130 | 283=>142 | 284=>143 | 285=>144 | 286=>145 | 129=>98 | 317=>148 | 318=>149 | 319=>150 | 320=>151 | 337=>152 | 338=>153 | n=>n,fun | 3=>3 | 9=>9 | 2=>2 | 4=>4 | 171=>188 | 0=>0 | 53=>152 | 37=>122 | 5=>5 | 173=>190 | 212=>196 | 51=>150 | 20=>20 | 213=>197 | 46=>117 | 232=>198 | 233=>199 | n=>n,fun | 17=>1 | 18=>2 | 19=>3 | n=>n⟩
theorem Tryz.itoa:Go.Proofs.Lays.n171 Tryz.prog Tryz.itoa_ren where
 mixed:=by kernel_rfl
 f129:=Tryz.func98.trans (congrArg some (by kernel_rfl))
 f171:=Tryz.func78.trans (congrArg some (by kernel_rfl))
 f243:=Tryz.func101.trans (congrArg some (by kernel_rfl))
 f246:=Tryz.func130.trans (congrArg some (by kernel_rfl))
 f283:=Tryz.func142.trans (congrArg some (by kernel_rfl))
 f284:=Tryz.func143.trans (congrArg some (by kernel_rfl))
 f285:=Tryz.func144.trans (congrArg some (by kernel_rfl))
 f286:=Tryz.func145.trans (congrArg some (by kernel_rfl))
 f317:=Tryz.func148.trans (congrArg some (by kernel_rfl))
 f318:=Tryz.func149.trans (congrArg some (by kernel_rfl))
 f319:=Tryz.func150.trans (congrArg some (by kernel_rfl))
 f320:=Tryz.func151.trans (congrArg some (by kernel_rfl))
 f337:=Tryz.func152.trans (congrArg some (by kernel_rfl))
 f338:=Tryz.func153.trans (congrArg some (by kernel_rfl))
 t0:=Tryz.underlying0
 a0:=Tryz.isAgg0
 z0:=Tryz.sizeOf0
 v0:=Tryz.zeroValue0
 t2:=Tryz.underlying2
 a2:=Tryz.isAgg2
 z2:=Tryz.sizeOf2
 v2:=Tryz.zeroValue2
 t3:=Tryz.underlying3
 a3:=Tryz.isAgg3
 z3:=Tryz.sizeOf3
 v3:=Tryz.zeroValue3
 t4:=Tryz.underlying4
 a4:=Tryz.isAgg4
 z4:=Tryz.sizeOf4
 v4:=Tryz.zeroValue4
 t5:=Tryz.underlying5
 a5:=Tryz.isAgg5
 z5:=Tryz.sizeOf5
 v5:=Tryz.zeroValue5
 t9:=Tryz.underlying9
 a9:=Tryz.isAgg9
 z9:=Tryz.sizeOf9
 v9:=Tryz.zeroValue9
 t20:=Tryz.underlying20
 a20:=Tryz.isAgg20
 z20:=Tryz.sizeOf20
 v20:=Tryz.zeroValue20
 t37:=Tryz.underlying122
 a37:=Tryz.isAgg122
 z37:=Tryz.sizeOf122
 v37:=Tryz.zeroValue122
 t46:=Tryz.underlying117
 a46:=Tryz.isAgg117
 z46:=Tryz.sizeOf117
 v46:=Tryz.zeroValue117
 t51:=Tryz.underlying150
 a51:=Tryz.isAgg150
 z51:=Tryz.sizeOf150
 v51:=Tryz.zeroValue150
 t53:=Tryz.underlying152
 a53:=Tryz.isAgg152
 z53:=Tryz.sizeOf152
 v53:=Tryz.zeroValue152
 t171:=Tryz.underlying188
 a171:=Tryz.isAgg188
 z171:=Tryz.sizeOf188
 v171:=Tryz.zeroValue188
 t173:=Tryz.underlying190
 a173:=Tryz.isAgg190
 z173:=Tryz.sizeOf190
 v173:=Tryz.zeroValue190
 t212:=Tryz.underlying196
 a212:=Tryz.isAgg196
 z212:=Tryz.sizeOf196
 v212:=Tryz.zeroValue196
 t213:=Tryz.underlying197
 a213:=Tryz.isAgg197
 z213:=Tryz.sizeOf197
 t232:=Tryz.underlying198
 a232:=Tryz.isAgg198
 z232:=Tryz.sizeOf198
 v232:=Tryz.zeroValue198
 t233:=Tryz.underlying199
 a233:=Tryz.isAgg199
 z233:=Tryz.sizeOf199
 v233:=Tryz.zeroValue199
 g17:=by kernel_rfl
 g18:=by kernel_rfl
 g19:=by kernel_rfl
end Go.Proofs
namespace Go.AW
open Go Go.Proofs
theorem ty2:ty Tryz.prog 2=some { desc:=TypeDesc.int IntKind.i64,size:=1,bytes:=8,zero:=Value.int IntKind.i64 (0) }:=by kernel_rfl
theorem ty3:ty Tryz.prog 3=some { desc:=TypeDesc.int IntKind.i64,size:=1,bytes:=8,zero:=Value.int IntKind.i64 (0) }:=by kernel_rfl
theorem ty4:ty Tryz.prog 4=some { desc:=TypeDesc.bool,size:=1,bytes:=1,zero:=Value.bool false }:=by kernel_rfl
theorem ty5:ty Tryz.prog 5=some { desc:=TypeDesc.int IntKind.u8,size:=1,bytes:=1,zero:=Value.int IntKind.u8 (0) }:=by kernel_rfl
theorem ty6:ty Tryz.prog 6=some { desc:=TypeDesc.int IntKind.u8,size:=1,bytes:=1,zero:=Value.int IntKind.u8 (0) }:=by kernel_rfl
theorem ty9:ty Tryz.prog 9=some { desc:=TypeDesc.string,size:=1,bytes:=16,zero:=Value.string { data:=#[] } }:=by kernel_rfl
theorem ty10:ty Tryz.prog 10=some { desc:=TypeDesc.string,size:=1,bytes:=16,zero:=Value.string { data:=#[] } }:=by kernel_rfl
theorem ty11:ty Tryz.prog 11=some { desc:=TypeDesc.string,size:=1,bytes:=16,zero:=Value.string { data:=#[] } }:=by kernel_rfl
theorem ty12:ty Tryz.prog 12=some { desc:=TypeDesc.int IntKind.u64,size:=1,bytes:=8,zero:=Value.int IntKind.u64 (0) }:=by kernel_rfl
theorem ty15:ty Tryz.prog 15=some { desc:=TypeDesc.pointer 201,size:=1,bytes:=8,zero:=Value.pointer none }:=by kernel_rfl
theorem ty16:ty Tryz.prog 16=some { desc:=TypeDesc.pointer 204,size:=1,bytes:=8,zero:=Value.pointer none }:=by kernel_rfl
theorem ty17:ty Tryz.prog 17=some { desc:=TypeDesc.pointer 212,size:=1,bytes:=8,zero:=Value.pointer none }:=by kernel_rfl
theorem ty21:ty Tryz.prog 21=some { desc:=TypeDesc.int IntKind.i32,size:=1,bytes:=4,zero:=Value.int IntKind.i32 (0) }:=by kernel_rfl
theorem ty22:ty Tryz.prog 22=some { desc:=TypeDesc.slice 55,size:=1,bytes:=24,zero:=Value.slice none 0 0 }:=by kernel_rfl
theorem ty23:ty Tryz.prog 23=some { desc:=TypeDesc.struct { toList:=[{ name := "Labels", type:=3,offset:=0,embedded:=false,tag := "", pkgPath := "", byteOffset:=0 },{ name := "States", type:=3,offset:=1,embedded:=false,tag := "", pkgPath := "", byteOffset:=8 },{ name := "Edges", type:=22,offset:=2,embedded:=false,tag := "", pkgPath := "", byteOffset:=16 }] },size:=3,bytes:=40,zero:=Value.agg #[Value.int IntKind.i64 (0),Value.int IntKind.i64 (0),Value.slice none 0 0] }:=by kernel_rfl
theorem ty24:ty Tryz.prog 24=some { desc:=TypeDesc.struct { toList:=[{ name := "Labels", type:=3,offset:=0,embedded:=false,tag := "", pkgPath := "", byteOffset:=0 },{ name := "States", type:=3,offset:=1,embedded:=false,tag := "", pkgPath := "", byteOffset:=8 },{ name := "Edges", type:=22,offset:=2,embedded:=false,tag := "", pkgPath := "", byteOffset:=16 }] },size:=3,bytes:=40,zero:=Value.agg #[Value.int IntKind.i64 (0),Value.int IntKind.i64 (0),Value.slice none 0 0] }:=by kernel_rfl
theorem ty25:ty Tryz.prog 25=some { desc:=TypeDesc.slice 3,size:=1,bytes:=24,zero:=Value.slice none 0 0 }:=by kernel_rfl
theorem ty26:ty Tryz.prog 26=some { desc:=TypeDesc.slice 39,size:=1,bytes:=24,zero:=Value.slice none 0 0 }:=by kernel_rfl
theorem ty28:ty Tryz.prog 28=some { desc:=TypeDesc.struct { toList:=[{ name := "Graph", type:=24,offset:=0,embedded:=false,tag := "", pkgPath := "", byteOffset:=0 },{ name := "Weights", type:=25,offset:=3,embedded:=false,tag := "", pkgPath := "", byteOffset:=40 },{ name := "Inputs", type:=3,offset:=4,embedded:=false,tag := "", pkgPath := "", byteOffset:=64 },{ name := "Rounds", type:=26,offset:=5,embedded:=false,tag := "", pkgPath := "", byteOffset:=72 }] },size:=6,bytes:=96,zero:=Value.agg { toList:=[Value.int IntKind.i64 (0),Value.int IntKind.i64 (0),Value.slice none 0 0,Value.slice none 0 0,Value.int IntKind.i64 (0),Value.slice none 0 0] } }:=by kernel_rfl
theorem ty30:ty Tryz.prog 30=some { desc:=TypeDesc.int IntKind.i64,size:=1,bytes:=8,zero:=Value.int IntKind.i64 (0) }:=by kernel_rfl
theorem ty39:ty Tryz.prog 39=some { desc:=TypeDesc.slice 65,size:=1,bytes:=24,zero:=Value.slice none 0 0 }:=by kernel_rfl
theorem ty47:ty Tryz.prog 47=some { desc:=TypeDesc.slice 25,size:=1,bytes:=24,zero:=Value.slice none 0 0 }:=by kernel_rfl
theorem ty54:ty Tryz.prog 54=some { desc:=TypeDesc.struct { toList:=[{ name := "From", type:=3,offset:=0,embedded:=false,tag := "", pkgPath := "", byteOffset:=0 },{ name := "Label", type:=3,offset:=1,embedded:=false,tag := "", pkgPath := "", byteOffset:=8 },{ name := "To", type:=3,offset:=2,embedded:=false,tag := "", pkgPath := "", byteOffset:=16 }] },size:=3,bytes:=24,zero:=Value.agg { toList:=[Value.int IntKind.i64 (0),Value.int IntKind.i64 (0),Value.int IntKind.i64 (0)] } }:=by kernel_rfl
theorem ty55:ty Tryz.prog 55=some { desc:=TypeDesc.struct { toList:=[{ name := "From", type:=3,offset:=0,embedded:=false,tag := "", pkgPath := "", byteOffset:=0 },{ name := "Label", type:=3,offset:=1,embedded:=false,tag := "", pkgPath := "", byteOffset:=8 },{ name := "To", type:=3,offset:=2,embedded:=false,tag := "", pkgPath := "", byteOffset:=16 }] },size:=3,bytes:=24,zero:=Value.agg { toList:=[Value.int IntKind.i64 (0),Value.int IntKind.i64 (0),Value.int IntKind.i64 (0)] } }:=by kernel_rfl
theorem ty56:ty Tryz.prog 56=some { desc:=TypeDesc.slice 9,size:=1,bytes:=24,zero:=Value.slice none 0 0 }:=by kernel_rfl
theorem ty64:ty Tryz.prog 64=some { desc:=TypeDesc.struct { toList:=[{ name := "State", type:=3,offset:=0,embedded:=false,tag := "", pkgPath := "", byteOffset:=0 },{ name := "Parts", type:=47,offset:=1,embedded:=false,tag := "", pkgPath := "", byteOffset:=8 }] },size:=2,bytes:=32,zero:=Value.agg #[Value.int IntKind.i64 (0),Value.slice none 0 0] }:=by kernel_rfl
theorem ty65:ty Tryz.prog 65=some { desc:=TypeDesc.struct { toList:=[{ name := "State", type:=3,offset:=0,embedded:=false,tag := "", pkgPath := "", byteOffset:=0 },{ name := "Parts", type:=47,offset:=1,embedded:=false,tag := "", pkgPath := "", byteOffset:=8 }] },size:=2,bytes:=32,zero:=Value.agg #[Value.int IntKind.i64 (0),Value.slice none 0 0] }:=by kernel_rfl
theorem ty77:ty Tryz.prog 77=some { desc:=TypeDesc.map 9 25,size:=1,bytes:=8,zero:=Value.map none }:=by kernel_rfl
theorem ty93:ty Tryz.prog 93=some { desc:=TypeDesc.func #[55] #[25] false,size:=1,bytes:=8,zero:=Value.nilFunc }:=by kernel_rfl
theorem ty98:ty Tryz.prog 98=some { desc:=TypeDesc.map 9 3,size:=1,bytes:=8,zero:=Value.map none }:=by kernel_rfl
theorem ty103:ty Tryz.prog 103=some { desc:=TypeDesc.slice 25,size:=1,bytes:=24,zero:=Value.slice none 0 0 }:=by kernel_rfl
theorem ty104:ty Tryz.prog 104=some { desc:=TypeDesc.array 2 103,size:=2,bytes:=48,zero:=Value.agg #[Value.slice none 0 0,Value.slice none 0 0] }:=by kernel_rfl
theorem ty105:ty Tryz.prog 105=some { desc:=TypeDesc.struct { toList:=[{ name := "s", type:=3,offset:=0,embedded:=false,tag := "", pkgPath := "groove/minimal", byteOffset:=0 },{ name := "t", type:=3,offset:=1,embedded:=false,tag := "", pkgPath := "groove/minimal", byteOffset:=8 }] },size:=2,bytes:=16,zero:=Value.agg #[Value.int IntKind.i64 (0),Value.int IntKind.i64 (0)] }:=by kernel_rfl
theorem ty106:ty Tryz.prog 106=some { desc:=TypeDesc.struct { toList:=[{ name := "s", type:=3,offset:=0,embedded:=false,tag := "", pkgPath := "groove/minimal", byteOffset:=0 },{ name := "t", type:=3,offset:=1,embedded:=false,tag := "", pkgPath := "groove/minimal", byteOffset:=8 }] },size:=2,bytes:=16,zero:=Value.agg #[Value.int IntKind.i64 (0),Value.int IntKind.i64 (0)] }:=by kernel_rfl
theorem ty107:ty Tryz.prog 107=some { desc:=TypeDesc.slice 24,size:=1,bytes:=24,zero:=Value.slice none 0 0 }:=by kernel_rfl
theorem ty117:ty Tryz.prog 117=some { desc:=TypeDesc.int IntKind.u64,size:=1,bytes:=8,zero:=Value.int IntKind.u64 (0) }:=by kernel_rfl
theorem ty121:ty Tryz.prog 121=some { desc:=TypeDesc.pointer 124,size:=1,bytes:=8,zero:=Value.pointer none }:=by kernel_rfl
theorem ty122:ty Tryz.prog 122=some { desc:=TypeDesc.slice 5,size:=1,bytes:=24,zero:=Value.slice none 0 0 }:=by kernel_rfl
theorem ty123:ty Tryz.prog 123=some { desc:=TypeDesc.struct { toList:=[{ name := "addr", type:=121,offset:=0,embedded:=false,tag := "", pkgPath := "strings", byteOffset:=0 },{ name := "buf", type:=122,offset:=1,embedded:=false,tag := "", pkgPath := "strings", byteOffset:=8 }] },size:=2,bytes:=32,zero:=Value.agg #[Value.pointer none,Value.slice none 0 0] }:=by kernel_rfl
theorem ty124:ty Tryz.prog 124=some { desc:=TypeDesc.struct { toList:=[{ name := "addr", type:=121,offset:=0,embedded:=false,tag := "", pkgPath := "strings", byteOffset:=0 },{ name := "buf", type:=122,offset:=1,embedded:=false,tag := "", pkgPath := "strings", byteOffset:=8 }] },size:=2,bytes:=32,zero:=Value.agg #[Value.pointer none,Value.slice none 0 0] }:=by kernel_rfl
theorem ty133:ty Tryz.prog 133=some { desc:=TypeDesc.struct { toList:=[{ name := "pair", type:=106,offset:=0,embedded:=false,tag := "", pkgPath := "groove/minimal", byteOffset:=0 },{ name := "before", type:=3,offset:=2,embedded:=false,tag := "", pkgPath := "groove/minimal", byteOffset:=16 },{ name := "label", type:=3,offset:=3,embedded:=false,tag := "", pkgPath := "groove/minimal", byteOffset:=24 }] },size:=4,bytes:=32,zero:=Value.agg { toList:=[Value.int IntKind.i64 (0),Value.int IntKind.i64 (0),Value.int IntKind.i64 (0),Value.int IntKind.i64 (0)] } }:=by kernel_rfl
theorem ty134:ty Tryz.prog 134=some { desc:=TypeDesc.struct { toList:=[{ name := "pair", type:=106,offset:=0,embedded:=false,tag := "", pkgPath := "groove/minimal", byteOffset:=0 },{ name := "before", type:=3,offset:=2,embedded:=false,tag := "", pkgPath := "groove/minimal", byteOffset:=16 },{ name := "label", type:=3,offset:=3,embedded:=false,tag := "", pkgPath := "groove/minimal", byteOffset:=24 }] },size:=4,bytes:=32,zero:=Value.agg { toList:=[Value.int IntKind.i64 (0),Value.int IntKind.i64 (0),Value.int IntKind.i64 (0),Value.int IntKind.i64 (0)] } }:=by kernel_rfl
theorem ty135:ty Tryz.prog 135=some { desc:=TypeDesc.slice 134,size:=1,bytes:=24,zero:=Value.slice none 0 0 }:=by kernel_rfl
theorem ty136:ty Tryz.prog 136=some { desc:=TypeDesc.map 106 4,size:=1,bytes:=8,zero:=Value.map none }:=by kernel_rfl
theorem ty143:ty Tryz.prog 143=some { desc:=TypeDesc.int IntKind.i64,size:=1,bytes:=8,zero:=Value.int IntKind.i64 (0) }:=by kernel_rfl
theorem ty150:ty Tryz.prog 150=some { desc:=TypeDesc.int IntKind.u32,size:=1,bytes:=4,zero:=Value.int IntKind.u32 (0) }:=by kernel_rfl
theorem ty152:ty Tryz.prog 152=some { desc:=TypeDesc.int IntKind.u64,size:=1,bytes:=8,zero:=Value.int IntKind.u64 (0) }:=by kernel_rfl
theorem ty153:ty Tryz.prog 153=some { desc:=TypeDesc.pointer 5,size:=1,bytes:=8,zero:=Value.pointer none }:=by kernel_rfl
theorem ty168:ty Tryz.prog 168=some { desc:=TypeDesc.int IntKind.u64,size:=1,bytes:=8,zero:=Value.int IntKind.u64 (0) }:=by kernel_rfl
theorem ty172:ty Tryz.prog 172=some { desc:=TypeDesc.pointer 3,size:=1,bytes:=8,zero:=Value.pointer none }:=by kernel_rfl
theorem ty185:ty Tryz.prog 185=some { desc:=TypeDesc.pointer 168,size:=1,bytes:=8,zero:=Value.pointer none }:=by kernel_rfl
theorem ty196:ty Tryz.prog 196=some { desc:=TypeDesc.array 20 152,size:=20,bytes:=160,zero:=Value.agg { toList:=[Value.int IntKind.u64 (0),Value.int IntKind.u64 (0),Value.int IntKind.u64 (0),Value.int IntKind.u64 (0),Value.int IntKind.u64 (0),Value.int IntKind.u64 (0),Value.int IntKind.u64 (0),Value.int IntKind.u64 (0),Value.int IntKind.u64 (0),Value.int IntKind.u64 (0),Value.int IntKind.u64 (0),Value.int IntKind.u64 (0),Value.int IntKind.u64 (0),Value.int IntKind.u64 (0),Value.int IntKind.u64 (0),Value.int IntKind.u64 (0),Value.int IntKind.u64 (0),Value.int IntKind.u64 (0),Value.int IntKind.u64 (0),Value.int IntKind.u64 (0)] } }:=by kernel_rfl
theorem ty202:ty Tryz.prog 202=some { desc:=TypeDesc.array 0 16,size:=0,bytes:=0,zero:=Value.agg #[] }:=by kernel_rfl
theorem ty206:ty Tryz.prog 206=some { desc:=TypeDesc.int IntKind.u8,size:=1,bytes:=1,zero:=Value.int IntKind.u8 (0) }:=by kernel_rfl
theorem ty207:ty Tryz.prog 207=some { desc:=TypeDesc.int IntKind.u8,size:=1,bytes:=1,zero:=Value.int IntKind.u8 (0) }:=by kernel_rfl
theorem ty209:ty Tryz.prog 209=some { desc:=TypeDesc.int IntKind.i32,size:=1,bytes:=4,zero:=Value.int IntKind.i32 (0) }:=by kernel_rfl
theorem ty210:ty Tryz.prog 210=some { desc:=TypeDesc.int IntKind.i32,size:=1,bytes:=4,zero:=Value.int IntKind.i32 (0) }:=by kernel_rfl
attribute [go_sem] ty2 ty3 ty4 ty5 ty6 ty9 ty10 ty11 ty12 ty15 ty16 ty17 ty21 ty22 ty23 ty24 ty25 ty26 ty28 ty30 ty39 ty47 ty54 ty55 ty56 ty64 ty65 ty77 ty93 ty98 ty103 ty104 ty105 ty106 ty107 ty117 ty121 ty122 ty123 ty124 ty133 ty134 ty135 ty136 ty143 ty150 ty152 ty153 ty168 ty172 ty185 ty196 ty202 ty206 ty207 ty209 ty210
theorem follows:Tryz.prog.follows .mixedOrders=true:=by kernel_rfl
theorem fo24_0:fieldOf Tryz.prog 24 0=some (0,{ desc:=TypeDesc.int IntKind.i64,size:=1,bytes:=8,zero:=Value.int IntKind.i64 (0) }):=by kernel_rfl
theorem fo24_1:fieldOf Tryz.prog 24 1=some (1,{ desc:=TypeDesc.int IntKind.i64,size:=1,bytes:=8,zero:=Value.int IntKind.i64 (0) }):=by kernel_rfl
theorem fo24_2:fieldOf Tryz.prog 24 2=some (2,{ desc:=TypeDesc.slice 55,size:=1,bytes:=24,zero:=Value.slice none 0 0 }):=by kernel_rfl
theorem fo28_0:fieldOf Tryz.prog 28 0=some (0,{ desc:=TypeDesc.struct { toList:=[{ name := "Labels", type:=3,offset:=0,embedded:=false,tag := "", pkgPath := "", byteOffset:=0 },{ name := "States", type:=3,offset:=1,embedded:=false,tag := "", pkgPath := "", byteOffset:=8 },{ name := "Edges", type:=22,offset:=2,embedded:=false,tag := "", pkgPath := "", byteOffset:=16 }] },size:=3,bytes:=40,zero:=Value.agg #[Value.int IntKind.i64 (0),Value.int IntKind.i64 (0),Value.slice none 0 0] }):=by kernel_rfl
theorem fo28_1:fieldOf Tryz.prog 28 1=some (3,{ desc:=TypeDesc.slice 3,size:=1,bytes:=24,zero:=Value.slice none 0 0 }):=by kernel_rfl
theorem fo28_2:fieldOf Tryz.prog 28 2=some (4,{ desc:=TypeDesc.int IntKind.i64,size:=1,bytes:=8,zero:=Value.int IntKind.i64 (0) }):=by kernel_rfl
theorem fo28_3:fieldOf Tryz.prog 28 3=some (5,{ desc:=TypeDesc.slice 39,size:=1,bytes:=24,zero:=Value.slice none 0 0 }):=by kernel_rfl
theorem fo55_0:fieldOf Tryz.prog 55 0=some (0,{ desc:=TypeDesc.int IntKind.i64,size:=1,bytes:=8,zero:=Value.int IntKind.i64 (0) }):=by kernel_rfl
theorem fo55_1:fieldOf Tryz.prog 55 1=some (1,{ desc:=TypeDesc.int IntKind.i64,size:=1,bytes:=8,zero:=Value.int IntKind.i64 (0) }):=by kernel_rfl
theorem fo55_2:fieldOf Tryz.prog 55 2=some (2,{ desc:=TypeDesc.int IntKind.i64,size:=1,bytes:=8,zero:=Value.int IntKind.i64 (0) }):=by kernel_rfl
theorem fo65_0:fieldOf Tryz.prog 65 0=some (0,{ desc:=TypeDesc.int IntKind.i64,size:=1,bytes:=8,zero:=Value.int IntKind.i64 (0) }):=by kernel_rfl
theorem fo65_1:fieldOf Tryz.prog 65 1=some (1,{ desc:=TypeDesc.slice 25,size:=1,bytes:=24,zero:=Value.slice none 0 0 }):=by kernel_rfl
theorem fo106_0:fieldOf Tryz.prog 106 0=some (0,{ desc:=TypeDesc.int IntKind.i64,size:=1,bytes:=8,zero:=Value.int IntKind.i64 (0) }):=by kernel_rfl
theorem fo106_1:fieldOf Tryz.prog 106 1=some (1,{ desc:=TypeDesc.int IntKind.i64,size:=1,bytes:=8,zero:=Value.int IntKind.i64 (0) }):=by kernel_rfl
theorem fo124_1:fieldOf Tryz.prog 124 1=some (1,{ desc:=TypeDesc.slice 5,size:=1,bytes:=24,zero:=Value.slice none 0 0 }):=by kernel_rfl
theorem fo134_0:fieldOf Tryz.prog 134 0=some (0,{ desc:=TypeDesc.struct { toList:=[{ name := "s", type:=3,offset:=0,embedded:=false,tag := "", pkgPath := "groove/minimal", byteOffset:=0 },{ name := "t", type:=3,offset:=1,embedded:=false,tag := "", pkgPath := "groove/minimal", byteOffset:=8 }] },size:=2,bytes:=16,zero:=Value.agg #[Value.int IntKind.i64 (0),Value.int IntKind.i64 (0)] }):=by kernel_rfl
theorem fo134_1:fieldOf Tryz.prog 134 1=some (2,{ desc:=TypeDesc.int IntKind.i64,size:=1,bytes:=8,zero:=Value.int IntKind.i64 (0) }):=by kernel_rfl
theorem fo134_2:fieldOf Tryz.prog 134 2=some (3,{ desc:=TypeDesc.int IntKind.i64,size:=1,bytes:=8,zero:=Value.int IntKind.i64 (0) }):=by kernel_rfl
theorem es22:elemSize Tryz.prog 22=some 3:=by kernel_rfl
theorem es25:elemSize Tryz.prog 25=some 1:=by kernel_rfl
theorem es26:elemSize Tryz.prog 26=some 1:=by kernel_rfl
theorem es39:elemSize Tryz.prog 39=some 2:=by kernel_rfl
theorem es47:elemSize Tryz.prog 47=some 1:=by kernel_rfl
theorem es56:elemSize Tryz.prog 56=some 1:=by kernel_rfl
theorem es103:elemSize Tryz.prog 103=some 1:=by kernel_rfl
theorem es104:elemSize Tryz.prog 104=some 1:=by kernel_rfl
theorem es107:elemSize Tryz.prog 107=some 3:=by kernel_rfl
theorem es135:elemSize Tryz.prog 135=some 4:=by kernel_rfl
theorem hk55 (x0:Int) (x1:Int) (x2:Int):hkey Tryz.prog 5 55 [HV.int .i64 x0,HV.int .i64 x1,HV.int .i64 x2]=some [Lit.int .i64 x0,Lit.int .i64 x1,Lit.int .i64 x2]:=by kernel_rfl
theorem hc55:Tryz.prog.eqGuardType Tryz.prog.depth 55=false∧Tryz.prog.keyTypeAt 5 55=true∧structT Tryz.prog 55=true:=⟨by kernel_rfl,by kernel_rfl,by kernel_rfl⟩
theorem hq55 (x y:Int × Int × Int):x=y↔[Lit.int .i64 x.1,Lit.int .i64 x.2.1,Lit.int .i64 x.2.2]=[Lit.int .i64 y.1,Lit.int .i64 y.2.1,Lit.int .i64 y.2.2]:=by simp [Prod.ext_iff,and_assoc]
theorem hk106 (x0:Int) (x1:Int):hkey Tryz.prog 5 106 [HV.int .i64 x0,HV.int .i64 x1]=some [Lit.int .i64 x0,Lit.int .i64 x1]:=by kernel_rfl
theorem hc106:Tryz.prog.eqGuardType Tryz.prog.depth 106=false∧Tryz.prog.keyTypeAt 5 106=true∧structT Tryz.prog 106=true:=⟨by kernel_rfl,by kernel_rfl,by kernel_rfl⟩
theorem hq106 (x y:Int × Int):x=y↔[Lit.int .i64 x.1,Lit.int .i64 x.2]=[Lit.int .i64 y.1,Lit.int .i64 y.2]:=by simp [Prod.ext_iff,and_assoc]
def ints (l:List Int):HV:=.sl 1 l.length (l.map (.int .i64))
def num (n:Int):HV:=.int .i64 n
theorem cnt_next {i n:Nat} (h:n≤9223372036854775807) (hi:i<n):IntKind.wrap .i64 ((i:Int)+1)=((i+1:Nat):Int):=by
 rw [w64 (by omega) (by omega)]; omega
theorem cnt_ge {i n:Nat} (h:decide ((i:Int)<(n:Int))=false) (hi:i≤n):i=n:=by
 have:¬ i<n:=by simpa using h
 omega
theorem Pure.use {P:Program} {f:FuncId} {args:List HV} {H:Heap} {K:HV→Heap→Prop} {R:HV→Prop} (hp:Pure P f args R) (hK:∀ r,R r→K r H):ACall P f args H K:=ACall.pure0 hp hK
end Go.AW

namespace Go.Proofs
open Go
def Tryz.sortS_ren:Go.Shelf.Ren:=⟨fun | 6=>65 | 8=>72 | 9=>86 | 19=>97 | 20=>98 | 21=>106 | 22=>107 | 23=>108 | 24=>109 | 25=>110 | 26=>111 | 27=>112 | 28=>113 | 29=>114 | 36=>134 | 31=>125 | 32=>126 | 37=>135 | 38=>136 | 39=>137 | 41=>146 | n=>n,fun | 27=>56 | 29=>9 | 3=>3 | 32=>117 | 26=>56 | 0=>0 | 44=>150 | 46=>152 | 4=>4 | 36=>144 | 35=>143 | 41=>101 | 5=>5 | 9=>9 | 53=>168 | 57=>172 | 63=>185 | 64=>186 | n=>n,fun | n=>n⟩
theorem Tryz.sortS:Go.Proofs.SlLaysM.n6 Tryz.prog Tryz.sortS_ren where
 mixed:=by kernel_rfl
 f6:=⟨"slices.Sort[[]string,string]", by decide,Tryz.func65.trans (congrArg some (by kernel_rfl))⟩
 f8:=Tryz.func72.trans (congrArg some (by kernel_rfl))
 f9:=⟨"slices.pdqsortOrdered[string]", by decide,Tryz.func86.trans (congrArg some (by kernel_rfl))⟩
 f19:=Tryz.func97.trans (congrArg some (by kernel_rfl))
 f20:=Tryz.func98.trans (congrArg some (by kernel_rfl))
 f21:=⟨"slices.insertionSortOrdered[string]", by decide,Tryz.func106.trans (congrArg some (by kernel_rfl))⟩
 f22:=⟨"slices.heapSortOrdered[string]", by decide,Tryz.func107.trans (congrArg some (by kernel_rfl))⟩
 f23:=⟨"slices.breakPatternsOrdered[string]", by decide,Tryz.func108.trans (congrArg some (by kernel_rfl))⟩
 f24:=⟨"slices.choosePivotOrdered[string]", by decide,Tryz.func109.trans (congrArg some (by kernel_rfl))⟩
 f25:=⟨"slices.reverseRangeOrdered[string]", by decide,Tryz.func110.trans (congrArg some (by kernel_rfl))⟩
 f26:=⟨"slices.partialInsertionSortOrdered[string]", by decide,Tryz.func111.trans (congrArg some (by kernel_rfl))⟩
 f27:=⟨"cmp.Less[string]", by decide,Tryz.func112.trans (congrArg some (by kernel_rfl))⟩
 f28:=⟨"slices.partitionEqualOrdered[string]", by decide,Tryz.func113.trans (congrArg some (by kernel_rfl))⟩
 f29:=⟨"slices.partitionOrdered[string]", by decide,Tryz.func114.trans (congrArg some (by kernel_rfl))⟩
 f31:=Tryz.func125.trans (congrArg some (by kernel_rfl))
 f32:=Tryz.func126.trans (congrArg some (by kernel_rfl))
 f36:=⟨"slices.siftDownOrdered[string]", by decide,Tryz.func134.trans (congrArg some (by kernel_rfl))⟩
 f37:=⟨"slices.medianAdjacentOrdered[string]", by decide,Tryz.func135.trans (congrArg some (by kernel_rfl))⟩
 f38:=⟨"slices.medianOrdered[string]", by decide,Tryz.func136.trans (congrArg some (by kernel_rfl))⟩
 f39:=⟨"cmp.isNaN[string]", by decide,Tryz.func137.trans (congrArg some (by kernel_rfl))⟩
 f41:=⟨"slices.order2Ordered[string]", by decide,Tryz.func146.trans (congrArg some (by kernel_rfl))⟩
 t0:=Tryz.underlying0
 a0:=Tryz.isAgg0
 z0:=Tryz.sizeOf0
 v0:=Tryz.zeroValue0
 t3:=Tryz.underlying3
 a3:=Tryz.isAgg3
 z3:=Tryz.sizeOf3
 v3:=Tryz.zeroValue3
 t4:=Tryz.underlying4
 a4:=Tryz.isAgg4
 z4:=Tryz.sizeOf4
 v4:=Tryz.zeroValue4
 t5:=Tryz.underlying5
 a5:=Tryz.isAgg5
 z5:=Tryz.sizeOf5
 v5:=Tryz.zeroValue5
 t9:=Tryz.underlying9
 a9:=Tryz.isAgg9
 z9:=Tryz.sizeOf9
 v9:=Tryz.zeroValue9
 t26:=Tryz.underlying56
 a26:=Tryz.isAgg56
 z26:=Tryz.sizeOf56
 v26:=Tryz.zeroValue56
 t27:=Tryz.underlying56
 a27:=Tryz.isAgg56
 z27:=Tryz.sizeOf56
 v27:=Tryz.zeroValue56
 t29:=Tryz.underlying9
 a29:=Tryz.isAgg9
 z29:=Tryz.sizeOf9
 v29:=Tryz.zeroValue9
 t32:=Tryz.underlying117
 a32:=Tryz.isAgg117
 z32:=Tryz.sizeOf117
 v32:=Tryz.zeroValue117
 t35:=Tryz.underlying143
 a35:=Tryz.isAgg143
 z35:=Tryz.sizeOf143
 v35:=Tryz.zeroValue143
 t36:=Tryz.underlying144
 a36:=Tryz.isAgg144
 z36:=Tryz.sizeOf144
 v36:=Tryz.zeroValue144
 t41:=Tryz.underlying101
 a41:=Tryz.isAgg101
 z41:=Tryz.sizeOf101
 v41:=Tryz.zeroValue101
 t44:=Tryz.underlying150
 a44:=Tryz.isAgg150
 z44:=Tryz.sizeOf150
 v44:=Tryz.zeroValue150
 t46:=Tryz.underlying152
 a46:=Tryz.isAgg152
 z46:=Tryz.sizeOf152
 v46:=Tryz.zeroValue152
 t53:=Tryz.underlying168
 a53:=Tryz.isAgg168
 z53:=Tryz.sizeOf168
 v53:=Tryz.zeroValue168
 t57:=Tryz.underlying172
 a57:=Tryz.isAgg172
 z57:=Tryz.sizeOf172
 v57:=Tryz.zeroValue172
 t63:=Tryz.underlying185
 a63:=Tryz.isAgg185
 z63:=Tryz.sizeOf185
 v63:=Tryz.zeroValue185
 t64:=Tryz.underlying186
 a64:=Tryz.isAgg186
 z64:=Tryz.sizeOf186
 v64:=Tryz.zeroValue186
def Tryz.sortI_ren:Go.Shelf.Ren:=⟨fun | 5=>68 | 8=>72 | 7=>88 | 19=>97 | 20=>98 | 10=>116 | 11=>117 | 12=>118 | 13=>119 | 14=>120 | 15=>121 | 16=>87 | 17=>122 | 18=>123 | 30=>138 | 31=>125 | 32=>126 | 33=>139 | 34=>140 | 35=>115 | 40=>147 | n=>n,fun | 23=>25 | 25=>3 | 3=>3 | 32=>117 | 22=>25 | 0=>0 | 44=>150 | 46=>152 | 4=>4 | 36=>144 | 35=>143 | 41=>101 | 5=>5 | 9=>9 | 53=>168 | 57=>172 | 63=>185 | 64=>186 | n=>n,fun | n=>n⟩
theorem Tryz.sortI:Go.Proofs.SlLaysM.n5 Tryz.prog Tryz.sortI_ren where
 mixed:=by kernel_rfl
 f5:=⟨"slices.Sort[[]int,int]", by decide,Tryz.func68.trans (congrArg some (by kernel_rfl))⟩
 f7:=⟨"slices.pdqsortOrdered[int]", by decide,Tryz.func88.trans (congrArg some (by kernel_rfl))⟩
 f8:=Tryz.func72.trans (congrArg some (by kernel_rfl))
 f10:=⟨"slices.insertionSortOrdered[int]", by decide,Tryz.func116.trans (congrArg some (by kernel_rfl))⟩
 f11:=⟨"slices.heapSortOrdered[int]", by decide,Tryz.func117.trans (congrArg some (by kernel_rfl))⟩
 f12:=⟨"slices.breakPatternsOrdered[int]", by decide,Tryz.func118.trans (congrArg some (by kernel_rfl))⟩
 f13:=⟨"slices.choosePivotOrdered[int]", by decide,Tryz.func119.trans (congrArg some (by kernel_rfl))⟩
 f14:=⟨"slices.reverseRangeOrdered[int]", by decide,Tryz.func120.trans (congrArg some (by kernel_rfl))⟩
 f15:=⟨"slices.partialInsertionSortOrdered[int]", by decide,Tryz.func121.trans (congrArg some (by kernel_rfl))⟩
 f16:=⟨"cmp.Less[int]", by decide,Tryz.func87.trans (congrArg some (by kernel_rfl))⟩
 f17:=⟨"slices.partitionEqualOrdered[int]", by decide,Tryz.func122.trans (congrArg some (by kernel_rfl))⟩
 f18:=⟨"slices.partitionOrdered[int]", by decide,Tryz.func123.trans (congrArg some (by kernel_rfl))⟩
 f19:=Tryz.func97.trans (congrArg some (by kernel_rfl))
 f20:=Tryz.func98.trans (congrArg some (by kernel_rfl))
 f30:=⟨"slices.siftDownOrdered[int]", by decide,Tryz.func138.trans (congrArg some (by kernel_rfl))⟩
 f31:=Tryz.func125.trans (congrArg some (by kernel_rfl))
 f32:=Tryz.func126.trans (congrArg some (by kernel_rfl))
 f33:=⟨"slices.medianAdjacentOrdered[int]", by decide,Tryz.func139.trans (congrArg some (by kernel_rfl))⟩
 f34:=⟨"slices.medianOrdered[int]", by decide,Tryz.func140.trans (congrArg some (by kernel_rfl))⟩
 f35:=⟨"cmp.isNaN[int]", by decide,Tryz.func115.trans (congrArg some (by kernel_rfl))⟩
 f40:=⟨"slices.order2Ordered[int]", by decide,Tryz.func147.trans (congrArg some (by kernel_rfl))⟩
 t0:=Tryz.underlying0
 a0:=Tryz.isAgg0
 z0:=Tryz.sizeOf0
 v0:=Tryz.zeroValue0
 t3:=Tryz.underlying3
 a3:=Tryz.isAgg3
 z3:=Tryz.sizeOf3
 v3:=Tryz.zeroValue3
 t4:=Tryz.underlying4
 a4:=Tryz.isAgg4
 z4:=Tryz.sizeOf4
 v4:=Tryz.zeroValue4
 t5:=Tryz.underlying5
 a5:=Tryz.isAgg5
 z5:=Tryz.sizeOf5
 v5:=Tryz.zeroValue5
 t9:=Tryz.underlying9
 a9:=Tryz.isAgg9
 z9:=Tryz.sizeOf9
 v9:=Tryz.zeroValue9
 t22:=Tryz.underlying25
 a22:=Tryz.isAgg25
 z22:=Tryz.sizeOf25
 v22:=Tryz.zeroValue25
 t23:=Tryz.underlying25
 a23:=Tryz.isAgg25
 z23:=Tryz.sizeOf25
 v23:=Tryz.zeroValue25
 t25:=Tryz.underlying3
 a25:=Tryz.isAgg3
 z25:=Tryz.sizeOf3
 v25:=Tryz.zeroValue3
 t32:=Tryz.underlying117
 a32:=Tryz.isAgg117
 z32:=Tryz.sizeOf117
 v32:=Tryz.zeroValue117
 t35:=Tryz.underlying143
 a35:=Tryz.isAgg143
 z35:=Tryz.sizeOf143
 v35:=Tryz.zeroValue143
 t36:=Tryz.underlying144
 a36:=Tryz.isAgg144
 z36:=Tryz.sizeOf144
 v36:=Tryz.zeroValue144
 t41:=Tryz.underlying101
 a41:=Tryz.isAgg101
 z41:=Tryz.sizeOf101
 v41:=Tryz.zeroValue101
 t44:=Tryz.underlying150
 a44:=Tryz.isAgg150
 z44:=Tryz.sizeOf150
 v44:=Tryz.zeroValue150
 t46:=Tryz.underlying152
 a46:=Tryz.isAgg152
 z46:=Tryz.sizeOf152
 v46:=Tryz.zeroValue152
 t53:=Tryz.underlying168
 a53:=Tryz.isAgg168
 z53:=Tryz.sizeOf168
 v53:=Tryz.zeroValue168
 t57:=Tryz.underlying172
 a57:=Tryz.isAgg172
 z57:=Tryz.sizeOf172
 v57:=Tryz.zeroValue172
 t63:=Tryz.underlying185
 a63:=Tryz.isAgg185
 z63:=Tryz.sizeOf185
 v63:=Tryz.zeroValue185
 t64:=Tryz.underlying186
 a64:=Tryz.isAgg186
 z64:=Tryz.sizeOf186
 v64:=Tryz.zeroValue186
end Go.Proofs
namespace Go.AW
open Go
section
open Go Go.Proofs Go.Sort
theorem repL_map {α:Type} {w:World} {μ:Mu} {f:α→HV} {g:α→Value}:∀ {l:List α},RepL w μ (l.map f) (l.map g)↔∀ x∈l,Rep w μ (f x) (g x)
 | []=>by simp [RepL]
 | a::l=>by
  simp only [List.map_cons,RepL,List.mem_cons,forall_eq_or_imp];constructor
  ·rintro ⟨x,xs,e,h1,h2⟩
   cases e;exact ⟨h1,repL_map.1 h2⟩
  exact fun ⟨h1,h2⟩=>⟨_,_,rfl,h1,repL_map.2 h2⟩
theorem sorted_world {α:Type} [Inhabited α] {enc:α→Value} {f:α→HV} (hf1:∀ x,(f x).one=true) {w:World} {μ:Mu} {H:Heap} {id ver b k:Nat} {e:TypeId} {l d:List α} (hs:SR w μ H) (hg:hget H id=some (ver,.arr k e (l.map f)))
  (hl:μ.loc id=some (ver,some b)) (hrep:∀ x∈l,Rep w μ (f x) (enc x)) (hor:OR w μ (.arr k e (l.map f)) (some b)) (hv:∀ vs,RepL w μ (l.map f) vs→vs=l.map enc) (hp:d.Perm l) (n:Nat) (os:Array Obj) :
  SR (grow (putRow enc (Sort.ahead w n) b 0 d.toArray) os) μ (hset H id ver (.arr k e (d.map f)))∧Evo w μ (grow (putRow enc (Sort.ahead w n) b 0 d.toArray) os) μ:=by
 obtain ⟨h0,cur,vs,rest,hrow,hcl,hrl⟩:=hor;have hvs:=hv vs hrl;subst hvs;have hlen:d.length=l.length:=hp.length_eq
 have hcsz:cur.size=l.length+rest.length:=by rw [← Array.length_toList,hcl]; simp
 -- the world with the row put
 have hb:=hrow.lt;obtain ⟨lo,hi,hbk,hfr⟩:=hrow
 have hbk':(putRow enc (Sort.ahead w n) b 0 d.toArray).heap[b]?=some (.cells (putCells enc 0 d.toArray cur) e (lo,hi)):=by
  show (w.heap.modify b _)[b]?=_;rw [Array.getElem?_modify,if_pos rfl,hbk];rfl
 have hcur':(putCells enc 0 d.toArray cur).toList=d.map enc++rest:=by
  apply List.ext_getElem?;intro i;rw [Array.getElem?_toList];simp only [putCells,Array.getElem?_mapIdx]
  have hc:cur[i]?=(l.map enc++rest)[i]?:=by rw [← hcl,Array.getElem?_toList]
  rw [hc]
  rcases Nat.lt_or_ge i d.length with hi | hi
  ·rw [List.getElem?_append_left (by simp; omega),List.getElem?_append_left (by simpa using hi),List.getElem?_map,List.getElem?_map,List.getElem?_eq_getElem (by omega:i<l.length),List.getElem?_eq_getElem hi]
   simp only [Option.map_some];rw [if_pos ⟨Nat.zero_le _,by simpa using hi⟩];simp [hi]
  rw [List.getElem?_append_right (by simp; omega),List.getElem?_append_right (by simpa using hi)];simp only [List.length_map,hlen]
  cases rest[i - l.length]? with
  | none=>rfl
  | some x =>
   simp only [Option.map_some];rw [if_neg (by simp; omega)]
 have hsz1:(putRow enc (Sort.ahead w n) b 0 d.toArray).heap.size=w.heap.size:=by rw [Sort.size_putRow]; rfl
 have hrow1:Row (putRow enc (Sort.ahead w n) b 0 d.toArray) b (putCells enc 0 d.toArray cur) e:=⟨lo,hi,hbk',by simpa [putCells] using hfr⟩
 have hold:∀ b',b'≠b→(putRow enc (Sort.ahead w n) b 0 d.toArray).heap[b']?=w.heap[b']?:=fun b' hne=>by
  show (w.heap.modify b _)[b']?=_;rw [Array.getElem?_modify,if_neg (fun e=>hne e.symm)]
 obtain ⟨h1,h2⟩:=hs.updArr (cs':=d.map f) (w':=putRow enc (Sort.ahead w n) b 0 d.toArray) hg hl ⟨rfl,rfl,rfl,Nat.le_add_right _ _⟩ hsz1 hold ⟨lo,hi,hbk,hfr⟩ hrow1 (by simp [putCells]) fun E=>by
  refine ⟨fun c hc=>?_,_,d.map enc,rest,hrow1,hcur',repL_map.2 fun x hx=>Rep.evo E hs.ok _ _ (hrep x (hp.mem_iff.1 hx))⟩;obtain ⟨x,_,rfl⟩:=List.mem_map.1 hc;exact hf1 x
 have g:Grow (putRow enc (Sort.ahead w n) b 0 d.toArray) (grow (putRow enc (Sort.ahead w n) b 0 d.toArray) os) :=
  ⟨⟨rfl,rfl,rfl,Nat.le_refl _⟩,by rw [size_grow]; omega,fun b' hb'=>by
   show (_++os)[b']?=_
   rw [Array.getElem?_append_left hb']⟩
 exact ⟨h1.grow g,h2.trans (Evo.grow h1 g)⟩
theorem holds_row {α:Type} [Inhabited α] {enc:α→Value} {w:World} {b:Nat} {cur:Array Value} {e:TypeId} {l:List α} {rest:List Value} (hrow:Row w b cur e) (hcl:cur.toList=l.map enc++rest):Holds enc w b 0 l.toArray:=by
 intro j hj
 have hj':j<l.length:=by simpa using hj
 have hc:cur[j]?=some (enc l[j]):=by
  rw [← Array.getElem?_toList,hcl,List.getElem?_append_left (by simpa using hj'),List.getElem?_map,List.getElem?_eq_getElem hj'];rfl
 refine ⟨?_,?_⟩
 ·rw [Nat.zero_add,hrow.cell,hc]
  simp [hj']
 rw [Nat.zero_add];exact hrow.free (Array.getElem?_eq_some_iff.1 hc).1
theorem repL_strs {w:World} {μ:Mu}:∀ {l:List (List UInt8)} {vs:List Value},RepL w μ (l.map .str) vs→vs=l.map encStr∧∀ x∈l,Rep w μ (.str x) (encStr x)
 | [],vs,h=>by simp only [List.map_nil,RepL] at h; subst h; exact ⟨rfl,by simp⟩
 | a::l,vs,⟨x,xs,e,h1,h2⟩=>by
  obtain ⟨h3,h4⟩:=repL_strs h2;obtain ⟨rfl,hl⟩:=h1;subst e;rw [h3];exact ⟨rfl,by simpa using ⟨⟨rfl,hl⟩,h4⟩⟩
theorem repL_ints {w:World} {μ:Mu}:∀ {l:List Int} {vs:List Value},RepL w μ (l.map (.int .i64)) vs→vs=l.map (Value.int .i64)∧∀ x∈l,Rep w μ (.int .i64 x) (Value.int .i64 x)
 | [],vs,h=>by simp only [List.map_nil,RepL] at h; subst h; exact ⟨rfl,by simp⟩
 | a::l,vs,⟨x,xs,e,h1,h2⟩=>by
  obtain ⟨h3,h4⟩:=repL_ints h2;obtain ⟨rfl,hl⟩:=h1;subst e;rw [h3];exact ⟨rfl,by simpa using ⟨⟨rfl,hl⟩,h4⟩⟩
theorem w45 {H:Heap} {id ver:Nat} {e:TypeId} {l:List (List UInt8)} {K:HV→Heap→Prop} (hg:hget H id=some (ver,.arr 1 e (l.map .str))) (hlen:l.length<4611686018427387904)
  (hK:K (.tup []) (hset H id ver (.arr 1 e ((sortS l).map .str)))):ACall Tryz.prog 65 [.ar id ver 1 0 l.length] H K:=by
 refine ⟨enters' Tryz.func65 rfl rfl,fun μ w vs hs hr _=>?_⟩;obtain ⟨x,xs,rfl,hr,hn⟩:=hr;cases hn;obtain ⟨lo,hl,hor⟩:=hs.has _ _ _ hg
 rcases hr with ⟨lo',hl',h⟩ | ⟨hd,_⟩
 ·rw [hl] at hl'
  cases hl'
  rcases h with ⟨rfl,rfl,h0,_⟩ | ⟨b,cap,cur,e',rfl,rfl,hcap,_,hrow,hsz⟩
  ·have h0':l=[]:=List.eq_nil_of_length_eq_zero h0
   subst h0';refine (AnyM.slices_Sort_string_none Tryz.sortS none 0 w).mono ?_
   rintro e' w' ⟨rfl,rfl⟩
   have hset_same:SR w' μ (hset H id ver (.arr 1 e ((sortS []).map .str))):=by
    refine ⟨hs.ok,fun j v o ho=>?_,fun j x hx=>?_,hs.inj,hs.held⟩
    ·rw [hget_hset] at ho
     split at ho
     ·rename_i ej; subst ej; cases ho; exact ⟨none,hl,by show (sortS []).map HV.str=[]; simp [sortS]⟩
     exact hs.has _ _ _ ho
    rw [hget_hset];split
    ·exact ⟨_,rfl⟩
    exact hs.only _ _ hx
   exact ⟨_,.tup [],_,μ,rfl,hK,hset_same,⟨[],rfl,rfl⟩,Evo.refl _ _⟩
  have hor':=hor;obtain ⟨h0,cur',vs',rest,hrow',hcl,hrl⟩:=hor;obtain ⟨hvs,hreps⟩:=repL_strs hrl;subst hvs;refine (AnyM.slices_Sort_string Tryz.sortS b 0 cap l w (holds_row hrow' hcl) hrow'.lt hlen).mono ?_
  rintro e2 w' ⟨rfl,n,os,rfl⟩
  obtain ⟨h1,h2⟩:=sorted_world (f:=HV.str) (fun _=>rfl) hs hg hl hreps hor' (fun vs hv=>(repL_strs hv).1) (List.mergeSort_perm l _) n os;exact ⟨_,.tup [],_,μ,rfl,hK,h1,⟨[],rfl,rfl⟩,h2⟩
 exact absurd hl (hd.2 lo)
theorem w45n {H:Heap} {K:HV→Heap→Prop} (hK:K (.tup []) H):ACall Tryz.prog 65 [.v (.slice none 0 0)] H K:=by
 refine ⟨enters' Tryz.func65 rfl rfl,fun μ w vs hs hr _=>?_⟩;obtain ⟨x,xs,rfl,hr,hn⟩:=hr;cases hn;cases hr;refine (AnyM.slices_Sort_string_none Tryz.sortS none 0 w).mono ?_
 rintro e' w' ⟨rfl,rfl⟩
 exact ⟨_,.tup [],_,μ,rfl,hK,hs,⟨[],rfl,rfl⟩,Evo.refl _ _⟩
theorem w179 {H:Heap} {id ver:Nat} {e:TypeId} {l:List Int} {K:HV→Heap→Prop} (hg:hget H id=some (ver,.arr 1 e (l.map (.int .i64)))) (hlen:l.length<4611686018427387904)
  (hK:K (.tup []) (hset H id ver (.arr 1 e ((sortI l).map (.int .i64))))):ACall Tryz.prog 68 [.ar id ver 1 0 l.length] H K:=by
 refine ⟨enters' Tryz.func68 rfl rfl,fun μ w vs hs hr _=>?_⟩;obtain ⟨x,xs,rfl,hr,hn⟩:=hr;cases hn;obtain ⟨lo,hl,hor⟩:=hs.has _ _ _ hg
 rcases hr with ⟨lo',hl',h⟩ | ⟨hd,_⟩
 ·rw [hl] at hl'
  cases hl'
  rcases h with ⟨rfl,rfl,h0,_⟩ | ⟨b,cap,cur,e',rfl,rfl,hcap,_,hrow,hsz⟩
  ·have h0':l=[]:=List.eq_nil_of_length_eq_zero h0
   subst h0';refine (AnyM.slices_Sort_int_none Tryz.sortI none 0 w).mono ?_
   rintro e' w' ⟨rfl,rfl⟩
   refine ⟨_,.tup [],_,μ,rfl,hK,?_,⟨[],rfl,rfl⟩,Evo.refl _ _⟩
   have:(sortI []).map (HV.int .i64)=[]:=by simp [sortI]
   rw [this];exact hs.same hg
  have hor':=hor;obtain ⟨h0,cur',vs',rest,hrow',hcl,hrl⟩:=hor;obtain ⟨hvs,hreps⟩:=repL_ints hrl;subst hvs;refine (AnyM.slices_Sort_int Tryz.sortI b 0 cap l w (holds_row hrow' hcl) hrow'.lt hlen).mono ?_
  rintro e2 w' ⟨rfl,n,os,rfl⟩
  obtain ⟨h1,h2⟩:=sorted_world (f:=HV.int .i64) (fun _=>rfl) hs hg hl hreps hor' (fun vs hv=>(repL_ints hv).1) (List.mergeSort_perm l _) n os;exact ⟨_,.tup [],_,μ,rfl,hK,h1,⟨[],rfl,rfl⟩,h2⟩
 exact absurd hl (hd.2 lo)
theorem sorts179:SortsI Tryz.prog 68:=by
 refine ⟨fun _ _ _ _ _ _ hg hl hK=>w179 hg hl hK,fun H K hK=>⟨enters' Tryz.func68 rfl rfl,fun μ w vs hs hr _=>?_⟩⟩;obtain ⟨x,xs,rfl,hr,hn⟩:=hr;cases hn;cases hr;refine (AnyM.slices_Sort_int_none Tryz.sortI none 0 w).mono ?_
 rintro e' w' ⟨rfl,rfl⟩
 exact ⟨_,.tup [],_,μ,rfl,hK,hs,⟨[],rfl,rfl⟩,Evo.refl _ _⟩
end
section
open Go Go.Proofs Go.Sort Go.Lib
theorem put_world {α:Type} [Inhabited α] {enc:α→Value} {f:α→HV} (hf1:∀ x,(f x).one=true) {w:World} {μ:Mu} {H:Heap} {id ver b k:Nat} {e:TypeId} {l d:List α} (hs:SR w μ H) (hg:hget H id=some (ver,.arr k e (l.map f)))
  (hl:μ.loc id=some (ver,some b)) (hrep:∀ x∈d,Rep w μ (f x) (enc x)) (hor:OR w μ (.arr k e (l.map f)) (some b)) (hv:∀ vs,RepL w μ (l.map f) vs→vs=l.map enc) (hlen:d.length=l.length) (n:Nat) :
  SR (putRow enc (Sort.ahead w n) b 0 d.toArray) μ (hset H id ver (.arr k e (d.map f)))∧Evo w μ (putRow enc (Sort.ahead w n) b 0 d.toArray) μ:=by
 obtain ⟨h0,cur,vs,rest,hrow,hcl,hrl⟩:=hor;have hvs:=hv vs hrl;subst hvs
 have hcsz:cur.size=l.length+rest.length:=by rw [← Array.length_toList,hcl]; simp
 obtain ⟨lo,hi,hbk,hfr⟩:=hrow
 have hbk':(putRow enc (Sort.ahead w n) b 0 d.toArray).heap[b]?=some (.cells (putCells enc 0 d.toArray cur) e (lo,hi)):=by
  show (w.heap.modify b _)[b]?=_;rw [Array.getElem?_modify,if_pos rfl,hbk];rfl
 have hcur':(putCells enc 0 d.toArray cur).toList=d.map enc++rest:=by
  apply List.ext_getElem?;intro i;rw [Array.getElem?_toList];simp only [putCells,Array.getElem?_mapIdx]
  have hc:cur[i]?=(l.map enc++rest)[i]?:=by rw [← hcl,Array.getElem?_toList]
  rw [hc]
  rcases Nat.lt_or_ge i d.length with hi | hi
  ·rw [List.getElem?_append_left (by simp; omega),List.getElem?_append_left (by simpa using hi),List.getElem?_map,List.getElem?_map,List.getElem?_eq_getElem (by omega:i<l.length),List.getElem?_eq_getElem hi]
   simp only [Option.map_some];rw [if_pos ⟨Nat.zero_le _,by simpa using hi⟩];simp [hi]
  rw [List.getElem?_append_right (by simp; omega),List.getElem?_append_right (by simpa using hi)];simp only [List.length_map,hlen]
  cases rest[i - l.length]? with
  | none=>rfl
  | some x =>
   simp only [Option.map_some];rw [if_neg (by simp; omega)]
 have hsz1:(putRow enc (Sort.ahead w n) b 0 d.toArray).heap.size=w.heap.size:=by rw [Sort.size_putRow]; rfl
 have hrow1:Row (putRow enc (Sort.ahead w n) b 0 d.toArray) b (putCells enc 0 d.toArray cur) e:=⟨lo,hi,hbk',by simpa [putCells] using hfr⟩
 have hold:∀ b',b'≠b→(putRow enc (Sort.ahead w n) b 0 d.toArray).heap[b']?=w.heap[b']?:=fun b' hne=>by
  show (w.heap.modify b _)[b']?=_;rw [Array.getElem?_modify,if_neg (fun e=>hne e.symm)]
 exact hs.updArr (cs':=d.map f) (w':=putRow enc (Sort.ahead w n) b 0 d.toArray) hg hl ⟨rfl,rfl,rfl,Nat.le_add_right _ _⟩ hsz1 hold ⟨lo,hi,hbk,hfr⟩ hrow1 (by simp [putCells]) fun E=>by
  refine ⟨fun c hc=>?_,_,d.map enc,rest,hrow1,hcur',repL_map.2 fun x hx=>Rep.evo E hs.ok _ _ (hrep x hx)⟩;obtain ⟨x,_,rfl⟩:=List.mem_map.1 hc;exact hf1 x
end
end Go.AW
namespace Go.Proofs
open Go
set_option maxHeartbeats 1000000 in
set_option maxRecDepth 100000 in
theorem Tryz.stringslite_IndexByte (s:ByteArray) (c:Int) (w:World) :
  Calls Tryz.prog 105 #[.string s,.int .u8 c] w fun e w'=>e=.returned (.int .i64 (Lib.indexByte s.data.toList c.toNat.toUInt8))∧w'=w:=by
 go_enter Tryz.func105,Tryz.ntmps105
 go_wp2
 rw [run_callFunc_extern Tryz.func133 (by kernel_rfl) (by kernel_rfl) (by kernel_rfl) (e:=Extern.BytealgIndexByte.indexByte) (by kernel_rfl),Lib.run_indexByteString];simp only [Result.andThen];rw [Oper.upon_value]
 go_wp2
 go_ret
 exact ⟨rfl,rfl⟩
set_option maxHeartbeats 1000000 in
theorem Tryz.strings_IndexByte (s:ByteArray) (c:Int) (w:World) :
  Calls Tryz.prog 84 #[.string s,.int .u8 c] w fun e w'=>e=.returned (.int .i64 (Lib.indexByte s.data.toList c.toNat.toUInt8))∧w'=w:=by
 go_enter Tryz.func84,Tryz.ntmps84
 go_wp2_with (go_at_call 105; refine (Tryz.stringslite_IndexByte _ _ _).mono ?_; rintro e w' ⟨rfl,rfl⟩)
 go_ret
 exact ⟨rfl,rfl⟩
end Go.Proofs
namespace Go.AW
open Go Go.Proofs
theorem idx_wf (l:List UInt8) (c:UInt8) (hl:l.length≤maxLen):(Lit.int .i64 (Lib.indexByte l c)).wf=true:=by
 have h:∀ l:List UInt8, -1≤Lib.indexByte l c∧Lib.indexByte l c≤l.length:=by
  intro l
  induction l with
  | nil=>simp [Lib.indexByte]
  | cons a l ih =>
   simp only [Lib.indexByte,List.length_cons];split
   ·omega
   split
   ·omega
   omega
 have:=h l;simp only [maxLen] at hl;simp only [Lit.wf,IntKind.min,IntKind.max,IntKind.signed,IntKind.bits,Bool.and_eq_true,decide_eq_true_eq];simp;omega
theorem w51 (l:List UInt8) (c:Int):Pure Tryz.prog 84 [.str l,.int .u8 c] (· = .int .i64 (Lib.indexByte l c.toNat.toUInt8)):=by
 refine ⟨enters' Tryz.func84 rfl rfl,fun μ w vs hs hr _=>?_⟩;obtain ⟨x,xs,rfl,⟨rfl,hl⟩,y,ys,rfl,⟨rfl,_⟩,hn⟩:=hr;cases hn;refine (Tryz.strings_IndexByte ⟨l.toArray⟩ c w).mono ?_
 rintro e w' ⟨rfl,rfl⟩
 exact ⟨_,_,[],μ,rfl,⟨rfl,trivial,rfl⟩,hs,⟨by simp,idx_wf l _ hl⟩,Evo.refl _ _⟩
end Go.AW
namespace Go.Proofs
open Go
def Tryz.compI_ren:Go.Shelf.Ren:=⟨fun | 20=>103 | n=>n,fun | 22=>25 | 3=>3 | 4=>4 | 0=>0 | n=>n,fun | n=>n⟩
theorem Tryz.compI:Go.Proofs.Lays2.n20 Tryz.prog Tryz.compI_ren where
 mixed:=by kernel_rfl
 f20:=Tryz.func103.trans (congrArg some (by kernel_rfl))
 t0:=Tryz.underlying0
 a0:=Tryz.isAgg0
 z0:=Tryz.sizeOf0
 v0:=Tryz.zeroValue0
 t3:=Tryz.underlying3
 a3:=Tryz.isAgg3
 z3:=Tryz.sizeOf3
 v3:=Tryz.zeroValue3
 t4:=Tryz.underlying4
 a4:=Tryz.isAgg4
 z4:=Tryz.sizeOf4
 v4:=Tryz.zeroValue4
 t22:=Tryz.underlying25
 a22:=Tryz.isAgg25
 z22:=Tryz.sizeOf25
 v22:=Tryz.zeroValue25
 i3:=by kernel_rfl
end Go.Proofs
namespace Go.AW
open Go Go.Proofs Go.Sort Go.Lib
set_option linter.unusedVariables false
theorem c_sortI:SortsI Tryz.prog 68:=sorts179
theorem w180 {H:Heap} {id ver:Nat} {e:TypeId} {l:List Int} {K:HV→Heap→Prop} (hg:hget H id=some (ver,.arr 1 e (l.map (.int .i64))))
  (hK:K (.ar id ver 1 0 (compact_ l).length) (hset H id ver (.arr 1 e ((compact_ l++List.replicate (l.length - (compact_ l).length) 0).map (.int .i64))))):ACall Tryz.prog 103 [.ar id ver 1 0 l.length] H K:=by
 refine ⟨enters' Tryz.func103 rfl rfl,fun μ w vs hs hr _=>?_⟩;obtain ⟨x,xs,rfl,hr,hn⟩:=hr;cases hn;obtain ⟨lo,hl,hor⟩:=hs.has _ _ _ hg
 rcases hr with ⟨lo',hl',h⟩ | ⟨hd,_⟩
 ·rw [hl] at hl'
  cases hl'
  rcases h with ⟨rfl,rfl,h0,_⟩ | ⟨b,cap,cur,e',rfl,rfl,hcap,hcm,hrow,hsz⟩
  ·have hl0:=List.eq_nil_of_length_eq_zero h0
   subst hl0;refine (Any.slices_Compact_int_empty Tryz.compI none 0 w).mono ?_
   rintro e2 w' ⟨rfl,rfl⟩
   refine ⟨_,.ar id ver 1 0 0,_,μ,rfl,hK,hs.reobj hg fun l hl hor=>hor,.inl ⟨none,hl,.inl ⟨rfl,rfl,rfl,rfl⟩⟩,Evo.refl _ _⟩
  have hor':=hor;obtain ⟨h0,cur',vs',rest,hrow',hcl,hrl⟩:=hor;obtain ⟨hvs,hreps⟩:=repL_ints hrl;subst hvs;refine (Any.slices_Compact_int Tryz.compI b 0 cap l w (holds_row hrow' hcl) (by have:=hcm; simp only [maxLen] at this; omega) hcap).mono ?_
  rintro e2 w' ⟨rfl,n,rfl⟩
  have hle:=compact_le l
  have hlen:(compact_ l++List.replicate (l.length - (compact_ l).length) (0:Int)).length=l.length:=by simp; omega
  obtain ⟨h1,h2⟩:=put_world (f:=HV.int .i64) (fun _=>rfl) hs hg hl (d:=compact_ l++List.replicate (l.length - (compact_ l).length) 0) (fun x hx=>by
   rcases List.mem_append.1 hx with hx | hx
   ·exact hreps x (compact_mem hx)
   rw [List.eq_of_mem_replicate hx]; exact ⟨rfl,rfl⟩) hor' (fun vs hv=>(repL_ints hv).1) hlen n
  refine ⟨_,.ar id ver 1 0 (compact_ l).length,_,μ,rfl,hK,h1,.inl ⟨some b,hl,.inr ⟨b,cap,putCells (Value.int .i64) 0 (compact_ l++List.replicate (l.length - (compact_ l).length) 0).toArray cur,e',rfl,by simp,by omega,hcm,?_,?_⟩⟩,h2⟩
  ·obtain ⟨lo,hi,hbk,hfr⟩:=hrow
   refine ⟨lo,hi,?_,by simpa [putCells] using hfr⟩;show (w.heap.modify b _)[b]?=_;rw [Array.getElem?_modify,if_pos rfl,hbk];rfl
  simp only [putCells,Array.size_mapIdx]; exact hsz
 exact absurd hl (hd.2 lo)
theorem c_compactI {H H':Heap} {id ver n:Nat} {e:TypeId} {l:List Int} {K:HV→Heap→Prop} (hn:n=l.length) (hg:hget H id=some (ver,.arr 1 e (l.map (.int .i64)))) (hle:∀ j x,hget H' j=some x→hget H j=some x) (hno:hget H' id=none)
  (hK:K (slE eInt (compact_ l)) H'):ACall Tryz.prog 103 [.ar id ver 1 0 n] H K:=by
 subst hn;have hlen:=compact_le l;refine ACall.freeze 2 [(id,ver,.arr 1 e ((compact_ l++List.replicate (l.length - (compact_ l).length) 0).map (.int .i64)))] H' (w180 hg ⟨fun j x hx=>?_,fun j x hx=>?_,?_⟩)
 ·rw [hget_hset,if_neg (fun e=>by rw [e,hno] at hx; cases hx)]
  exact hle j x hx
 ·simp only [hget] at hx
  split at hx
  ·rename_i e
   subst e;cases hx;exact ⟨by rw [hget_hset,if_pos rfl],hno⟩
  cases hx
 have:frz 2 [(id,ver,.arr 1 e ((compact_ l++List.replicate (l.length - (compact_ l).length) 0).map (.int .i64)))] (.ar id ver 1 0 (compact_ l).length)=slE eInt (compact_ l):=by
  have h0:hget [(id,ver,AObj.arr 1 e ((compact_ l++List.replicate (l.length - (compact_ l).length) 0).map (.int .i64)))] id=some (ver,.arr 1 e ((compact_ l++List.replicate (l.length - (compact_ l).length) 0).map (.int .i64))):=by simp only [hget,if_true]
  rw [frz,h0];have h1:ver=ver∧0+(compact_ l).length*1≤((compact_ l++List.replicate (l.length - (compact_ l).length) (0:Int)).map (HV.int .i64)).length:=⟨rfl,by simp⟩;refine (if_pos h1).trans ?_;rw [List.drop_zero,Nat.mul_one,List.map_append,List.take_left' (List.length_map _),List.map_map];rfl
 rw [this];exact hK
theorem w_strings_IndexByte {l:List UInt8} {c r:Int} (h:m_strings_IndexByte l c=some r):Pure Tryz.prog 84 [HV.str l,HV.int .u8 c] (· = HV.int .i64 r):=by
 cases h;exact w51 l c
end Go.AW
namespace Go.AW
open Go
def dec2 (n:Nat):List UInt8:=if n<10 then [UInt8.ofNat (48+n)] else [UInt8.ofNat (48+n / 10),UInt8.ofNat (48+n % 10)]
def m_strconv_Itoa (p0:Int):Option (List UInt8):=if 0≤p0∧p0<100 then some (dec2 p0.toNat) else none
open Go.Proofs
theorem dec2_eq {n:Nat} (h:n<100):Lib.decDigits n=dec2 n:=by
 unfold dec2;rw [Lib.decDigits];by_cases h1:n<10
 ·rw [dif_pos h1,if_pos h1]
 rw [dif_neg h1,if_neg h1,Lib.decDigits,dif_pos (by omega)];rfl
theorem w_strconv_Itoa {p0:Int} {r:List UInt8} (h:m_strconv_Itoa p0=some r):Pure Tryz.prog 78 [HV.int .i64 p0] (· = HV.str r):=by
 unfold m_strconv_Itoa at h;split at h
 ·rename_i hc
  cases h;obtain ⟨m,rfl⟩:=Int.eq_ofNat_of_zero_le hc.1;refine ⟨enters' Tryz.func78 rfl rfl,fun μ w vs hs hr _=>?_⟩;obtain ⟨x,xs,rfl,⟨rfl,_⟩,hn⟩:=hr;cases hn;refine (Any.strconv_Itoa_small Tryz.itoa m (by omega) w).mono ?_
  rintro e w' ⟨rfl,rfl⟩
  refine ⟨_,HV.str (dec2 m),[],μ,rfl,⟨rfl,trivial,rfl⟩,hs,⟨?_,?_⟩,Evo.refl _ _⟩
  ·rw [dec2_eq (by omega)]
  unfold dec2; split <;> simp [maxLen]
 cases h
def letters:List UInt8:=[48,49,50,51,52,53,54,55,56,57,97,98,99,100,101,102]
abbrev WS:=List UInt8 × List Int
def ext1 (stp:List Int→UInt8→List Int) (cs:List UInt8) (x:WS):List WS:=cs.filterMap fun c=>if stp x.2 c=[] then none else some (x.1++[c],stp x.2 c)
def lvl (stp:List Int→UInt8→List Int) (cs:List UInt8) (set:List Int):Nat→List WS
 | 0=>if set=[] then [] else [([],set)]
 | i+1=>(lvl stp cs set i).flatMap (ext1 stp cs)
def ent (x:WS):List UInt8 × HV:=(x.1,ints x.2)
section
variable {stp:List Int→UInt8→List Int} {cs:List UInt8} {set:List Int}
theorem mem_ext1 {x y:WS}:y∈ext1 stp cs x↔∃ c∈cs,stp x.2 c≠[]∧y=(x.1++[c],stp x.2 c):=by
 simp only [ext1,List.mem_filterMap];constructor
 ·rintro ⟨c,hc,h⟩
  split at h
  ·cases h
  rename_i hn; cases h; exact ⟨c,hc,hn,rfl⟩
 rintro ⟨c,hc,hn,rfl⟩
 exact ⟨c,hc,by rw [if_neg hn]⟩
theorem ext1_keys (x:WS) (h:cs.Nodup):((ext1 stp cs x).map (·.1)).Nodup:=by
 induction cs with
 | nil=>simp [ext1]
 | cons c cs ih =>
  have hc:=List.nodup_cons.1 h;have ih':=ih hc.2;simp only [ext1,List.filterMap_cons] at ih' ⊢;split
  ·exact ih'
  rename_i y hy
  split at hy
  ·cases hy
  cases hy;simp only [List.map_cons,List.nodup_cons];refine ⟨fun hm=>?_,ih'⟩;obtain ⟨z,hz,he⟩:=List.mem_map.1 hm;obtain ⟨d,hd,_,rfl⟩:=mem_ext1.1 hz;have:=List.append_cancel_left he;cases this;exact hc.1 hd
theorem flat_keys (h:cs.Nodup):∀ {l:List WS},(l.map (·.1)).Nodup→((l.flatMap (ext1 stp cs)).map (·.1)).Nodup
 | [],_=>by simp
 | x::l,hl=>by
  simp only [List.map_cons,List.nodup_cons] at hl;simp only [List.flatMap_cons,List.map_append];refine List.nodup_append.2 ⟨ext1_keys x h,flat_keys h hl.2,?_⟩;intro a ha b hb e;subst e;obtain ⟨y,hy,rfl⟩:=List.mem_map.1 ha;obtain ⟨c,_,_,rfl⟩:=mem_ext1.1 hy;obtain ⟨z,hz,he⟩:=List.mem_map.1 hb;obtain ⟨x',hx',hz'⟩:=List.mem_flatMap.1 hz;obtain ⟨d,_,_,rfl⟩:=mem_ext1.1 hz'
  have h1:x'.1=x.1:=by
   have:=congrArg List.dropLast he
   simpa using this
  exact hl.1 (h1 ▸ List.mem_map.2 ⟨x',hx',rfl⟩)
theorem lvl_keys (h:cs.Nodup):∀ i,((lvl stp cs set i).map (·.1)).Nodup
 | 0=>by simp only [lvl]; split <;> simp
 | i+1=>flat_keys h (lvl_keys h i)
theorem lvl_len:∀ (i:Nat) (x:WS),x∈lvl stp cs set i→x.1.length=i
 | 0,x,h=>by
  simp only [lvl] at h;split at h
  ·cases h
  simp at h; subst h; rfl
 | i+1,x,h=>by
  obtain ⟨y,hy,hx⟩:=List.mem_flatMap.1 h;obtain ⟨c,_,_,rfl⟩:=mem_ext1.1 hx;have:=lvl_len i y hy;simp [this]
theorem lvl_all {A:List Int→Prop} (h0:A set) (hs:∀ a c,A a→c∈cs→A (stp a c)):∀ (i:Nat) (x:WS),x∈lvl stp cs set i→A x.2
 | 0,x,h=>by
  simp only [lvl] at h;split at h
  ·cases h
  simp at h; subst h; exact h0
 | i+1,x,h=>by
  obtain ⟨y,hy,hx⟩:=List.mem_flatMap.1 h;obtain ⟨c,hc,_,rfl⟩:=mem_ext1.1 hx;exact hs _ _ (lvl_all h0 hs i y hy) hc
theorem lvl_nil {i:Nat} (h:lvl stp cs set i=[]):∀ {j:Nat},i≤j→lvl stp cs set j=[]
 | 0,hj=>by
  have:i=0:=by omega
  subst this; exact h
 | j+1,hj=>by
  rcases Nat.lt_or_ge i (j+1) with h' | h'
  ·simp only [lvl,lvl_nil h (j:=j) (by omega),List.flatMap_nil]
  have:i=j+1:=by omega
  subst this; exact h
theorem perm_flat {l l':List WS} (h:l.Perm l'):(l.flatMap (ext1 stp cs)).Perm (l'.flatMap (ext1 stp cs)):=h.flatMap_right _
theorem perm_keys {l:List WS} {es:List (List UInt8 × HV)} (h:es.Perm (l.map ent)) (hl:(l.map (·.1)).Nodup):(es.map (·.1)).Nodup:=by
 have h1:=h.map (·.1);rw [List.map_map] at h1;exact h1.nodup_iff.2 (by simpa [Function.comp_def,ent] using hl)
theorem next_pick {vis rest l:List WS} {es:List (List UInt8 × HV)} {k:List UInt8} {v:HV} (hp:(vis++rest).Perm l) (he:es.Perm (l.map ent)) (hm:(k,v)∈es) (hk:k ∉ vis.map (·.1)) :
  ∃ x l1 l2,rest=l1++x::l2∧(k,v)=ent x∧((x::vis)++(l1++l2)).Perm l:=by
 have h1:(k,v)∈(vis++rest).map ent:=((hp.map ent).symm.mem_iff).1 (he.mem_iff.1 hm);obtain ⟨x,hx,hxe⟩:=List.mem_map.1 h1
 have hxr:x∈rest:=by
  rcases List.mem_append.1 hx with h | h
  ·exfalso
   refine hk (List.mem_map.2 ⟨x,h,?_⟩);have:=congrArg Prod.fst hxe;exact this
  exact h
 obtain ⟨l1,l2,rfl⟩:=List.append_of_mem hxr;refine ⟨x,l1,l2,rfl,hxe.symm,List.Perm.trans ?_ hp⟩
 have e1:(x::vis)++(l1++l2)=x::((vis++l1)++l2):=by simp
 have e2:vis++(l1++x::l2)=(vis++l1)++x::l2:=by simp
 rw [e1,e2];exact List.perm_middle.symm
theorem rest_nil {vis rest l:List WS} {es:List (List UInt8 × HV)} (hl:(l.map (·.1)).Nodup) (hp:(vis++rest).Perm l) (he:es.Perm (l.map ent)) (hall:∀ p∈es,p.1∈vis.map (·.1)):rest=[]:=by
 cases rest with
 | nil=>rfl
 | cons x rest =>
  exfalso;have hx:ent x∈es:=he.mem_iff.2 (List.mem_map.2 ⟨x,hp.mem_iff.1 (by simp),rfl⟩);have hk:=hall _ hx;have hn:((vis++x::rest).map (·.1)).Nodup:=(hp.map (·.1)).nodup_iff.2 hl;simp only [List.map_append,List.map_cons] at hn;exact (List.nodup_append.1 hn).2.2 _ hk _ (List.mem_cons_self ..) rfl
theorem ext1_take (x:WS) {j:Nat} (hj:j<cs.length):ext1 stp (cs.take (j+1)) x=ext1 stp (cs.take j) x++(if stp x.2 cs[j]=[] then [] else [(x.1++[cs[j]],stp x.2 cs[j])]):=by
 rw [List.take_add_one,List.getElem?_eq_getElem hj];simp only [ext1,Option.toList_some,List.filterMap_append]
 congr 1
 simp only [List.filterMap_cons,List.filterMap_nil]
 split <;> simp_all
theorem key_new {vis:List WS} {x:WS} (hcs:cs.Nodup) (hx:x.1 ∉ vis.map (·.1)) {j:Nat} (hj:j<cs.length) {es:List (List UInt8 × HV)} (he:es.Perm ((vis.flatMap (ext1 stp cs)++ext1 stp (cs.take j) x).map ent)) :
  alook (x.1++[cs[j]]) es=none:=by
 rw [alook_none];intro hm;have h1:=(he.map (·.1)).mem_iff.1 hm;rw [List.map_map,List.map_append,List.mem_append] at h1
 rcases h1 with h | h
 ·obtain ⟨y,hy,hye⟩:=List.mem_map.1 h
  obtain ⟨z,hz,hzy⟩:=List.mem_flatMap.1 hy;obtain ⟨d,_,_,rfl⟩:=mem_ext1.1 hzy
  have h2:z.1=x.1:=by
   have:=congrArg List.dropLast hye
   simpa [ent] using this
  exact hx (h2 ▸ List.mem_map.2 ⟨z,hz,rfl⟩)
 obtain ⟨y,hy,hye⟩:=List.mem_map.1 h;obtain ⟨d,hd,_,rfl⟩:=mem_ext1.1 hy
 have h2:d=cs[j]:=by
  have h3:x.1++[d]=x.1++[cs[j]]:=hye;have:=List.append_cancel_left h3
  simpa using this
 rw [h2] at hd;obtain ⟨k,hk,hke⟩:=List.mem_take_iff_getElem.1 hd;have:=(List.getElem_inj (h₀:=by omega) (h₁:=hj) hcs).1 hke;omega
end
def okLvl (stp:List Int→UInt8→List Int) (cs:List UInt8) (set:List Int) (n:Nat):Bool:=(List.range n).all fun j=>decide ((lvl stp cs set (j+1)).length≤4096)
theorem okLvl_iff {stp:List Int→UInt8→List Int} {cs:List UInt8} {set:List Int} {n:Nat}:okLvl stp cs set n=true↔∀ j,1≤j→j≤n→(lvl stp cs set j).length≤4096:=by
 simp only [okLvl,List.all_eq_true,List.mem_range,decide_eq_true_eq];constructor
 ·intro h j h1 h2
  have:=h (j - 1) (by omega)
  rwa [show j - 1+1=j by omega] at this
 exact fun h j hj=>h (j+1) (by omega) (by omega)
theorem utf_letters:∀ c∈letters,(Utf8.encode (c.toNat:Int)).data.toList=[c]:=by decide
theorem letters_nodup:letters.Nodup:=by decide
theorem fact_num {n:Int} (h:fact (.int .i64 n)) : -9223372036854775808≤n∧n≤9223372036854775807:=by
 simpa [fact,Lit.wf,IntKind.min,IntKind.max,IntKind.signed,IntKind.bits] using h
theorem dec_lt {a b:Nat} (h:decide ((a:Int)<(b:Int))=true):a<b:=by simpa using h
theorem AW.cjoin2 {P:Program} {ro:Option Nat} {N:Nat} {s:AS} {Q:Exit→AS→Prop} {c:Operand} {x y z:Code} {t:Bool} {α:Type} (St:α→AS) (I:α→Prop) (hc:s.ev c=some (.bool t))
  (h1:t=true→AW P ro N x (thenQ (fun s'=>∃ a,I a∧s'.le (St a)) Q) s) (h2:t=false→AW P ro N y (thenQ (fun s'=>∃ a,I a∧s'.le (St a)) Q) s)
  (h3:∀ a,I a→AW P ro N z Q (St a)):AW P ro N (.cond c x y) (thenQ (AW P ro N z Q) Q) s:=by
 refine (AW.cond hc h1 h2).mono ?_
 rintro e s' h
 cases e with
 | normal=>obtain ⟨a,ha,hl⟩:=h; exact AW.weaken (h3 a ha) hl
 | exit id=>exact h
 | goto l=>exact h
 | ret=>exact h
 | panic ch=>exact h
 | outgrown=>exact h
theorem fw24_0:fieldOf Tryz.prog 24 0=some (0,{ desc:=TypeDesc.int .i64,size:=1,bytes:=8,zero:=Value.int .i64 0 }):=by kernel_rfl
theorem fw24_1:fieldOf Tryz.prog 24 1=some (1,{ desc:=TypeDesc.int .i64,size:=1,bytes:=8,zero:=Value.int .i64 0 }):=by kernel_rfl
theorem fw24_2:fieldOf Tryz.prog 24 2=some (2,{ desc:=TypeDesc.slice 55,size:=1,bytes:=24,zero:=Value.slice none 0 0 }):=by kernel_rfl
theorem fw55_0:fieldOf Tryz.prog 55 0=some (0,{ desc:=TypeDesc.int .i64,size:=1,bytes:=8,zero:=Value.int .i64 0 }):=by kernel_rfl
theorem fw55_1:fieldOf Tryz.prog 55 1=some (1,{ desc:=TypeDesc.int .i64,size:=1,bytes:=8,zero:=Value.int .i64 0 }):=by kernel_rfl
theorem fw55_2:fieldOf Tryz.prog 55 2=some (2,{ desc:=TypeDesc.int .i64,size:=1,bytes:=8,zero:=Value.int .i64 0 }):=by kernel_rfl
attribute [go_sem high] fw24_0 fw24_1 fw24_2 fw55_0 fw55_1 fw55_2
theorem hget_0 {id v:Nat} {o:AObj} {H:Heap}:hget ((id,v,o)::H) id=some (v,o):=by simp [hget]
set_option linter.unusedSimpArgs false
set_option maxHeartbeats 1000000 in
theorem w79 {L n:Nat} {gS gE:HV} {stp:List Int→UInt8→List Int} {set:List Int} {A:List Int→Prop} (hL:L≤16) (h1g:gS.one=true) (h1e:gE.one=true) (hA0:A set) (hA:∀ a c,A a→c∈letters.take L→A (stp a c))
  (hstep:∀ a c,A a→c∈letters.take L→Pure Tryz.prog 63 [.agg [num L,gS,gE],ints a,.int .u8 c.toNat] (· = ints (stp a c))) :
  ACall Tryz.prog 40 [.agg [num L,gS,gE],ints set,num n] [] fun r H' =>
   ((∀ j,1≤j→j≤n→(lvl stp (letters.take L) set j).length≤4096)∧∃ id ver es,r=.tup [.mp id ver,.bool true]∧H'=[(id,ver,.map es)]∧es.Perm ((lvl stp (letters.take L) set n).map ent)) ∨
   (∃ j,1≤j∧j≤n∧4096<(lvl stp (letters.take L) set j).length∧r=.tup [.v (.map none),.bool false]∧H'=[]):=by
 refine ACall.facts (enters' Tryz.func40 rfl rfl) fun hf=>?_
 have hn:n≤9223372036854775807:=by
  have:=fact_num hf.2.2.1;omega
 refine ACall.of_body Tryz.func40 rfl rfl (Nat.le_of_ble_eq_true rfl) ?_;unfold Tryz.f40;dsimp only [enumS,Nat.reduceAdd];simp only [num] at *;refine AW.rseq (fid:=79) (mt:=[]) [1,2,3] rfl fun K hK=>?_;simp only [go_sem,reduceIte,Nat.reduceEqDiff,Int.reduceLE];refine hK _ ?_;clear hK K;refine AW.rseq (fid:=79) (mt:=[]) [1,2,3,8] rfl fun K hK=>?_;simp only [go_sem,reduceIte,Nat.reduceEqDiff,Int.reduceLE];intro v0;refine hK _ ?_;clear hK K;refine AW.seq ?_;refine AW.rseq (fid:=79) (mt:=[]) [1,2,3,8,18] rfl fun K hK=>?_;simp only [go_sem,ints,reduceIte,Nat.reduceEqDiff,Int.reduceLE];refine hK _ ?_;clear hK K;have h00:((0:Nat):Int)=0:=rfl;refine AW.cjoin2 (fun es:List (List UInt8 × HV)=>⟨[(2,.int .i64 n),(3,.fptr [.int .i64 L,gS,gE] 0),(8,.mp (79*1000+15) v0)],[(79*1000+15,v0,.map es)]⟩) (fun es=>es=(lvl stp (letters.take L) set 0).map ent) rfl (fun hc=>?_) (fun hc=>?_) ?_
 ·have hc:0<set.length:=by simpa using hc
  refine AW.region (fid:=79) (mt:=[]) [2,3,8] rfl fun K hK=>?_;simp only [go_sem,reduceIte,Nat.reduceEqDiff,Int.reduceLE,List.length_nil,Nat.zero_le,mput];refine hK _ ?_;clear hK K
  have hne:set≠[]:=by rintro rfl; simp at hc
  refine ⟨[([],ints set)],by simp [lvl,hne,ent],AS.le_of ⟨rfl,rfl,rfl,trivial⟩ ⟨hget_0,trivial⟩⟩
 ·have hc:set=[]:=by
   have:¬ 0<set.length:=by simpa using hc
   exact List.eq_nil_of_length_eq_zero (by omega)
  refine AW.skip ⟨[],by simp [lvl,hc],AS.le_of ⟨rfl,rfl,rfl,trivial⟩ ⟨hget_0,trivial⟩⟩
 rintro es0 rfl
 refine AW.seq ?_;refine AW.rseq (fid:=79) (mt:=[]) [3,8,21,22] rfl fun K hK=>?_;simp only [go_sem,reduceIte,Nat.reduceEqDiff,Int.reduceLE];refine hK _ ?_;clear hK K;refine AW.block ?_
 refine AW.loopS (fun p:Nat × Nat × Nat × List (List UInt8 × HV)=>⟨[(3,.fptr [.int .i64 L,gS,gE] 0),(8,.mp p.2.1 p.2.2.1),(21,.int .i64 n),(22,.int .i64 p.1)],[(p.2.1,p.2.2.1,.map p.2.2.2)]⟩)
  (fun p=>p.1≤n∧p.2.2.2.Perm ((lvl stp (letters.take L) set p.1).map ent)∧∀ j,1≤j→j≤p.1→(lvl stp (letters.take L) set j).length≤4096) (fun p=>n - p.1) (0,_,_,_)
  (AS.le_of ⟨rfl,rfl,rfl,rfl,trivial⟩ ⟨rfl,trivial⟩) ⟨Nat.zero_le _,List.Perm.refl _,fun j h1 h2=>by dsimp only at h2; omega⟩ ?_
 rintro ⟨i,aid,av,es⟩ ⟨hi,hes,hsz⟩
 dsimp only at hi hes hsz ⊢;refine AW.rseq (fid:=79) (mt:=[]) [3,8,21,22,23] rfl fun K hK=>?_;simp only [go_sem,reduceIte,Nat.reduceEqDiff,Int.reduceLE];refine hK _ ?_;clear hK K;refine AW.cseq rfl (fun hc=>?_) (fun hc=>?_)
 ·have hi':=dec_lt hc
  obtain ⟨f,hf1,hf2⟩:∃ f:Nat,f*1000+24≠aid∧f*1000+26≠aid:=⟨aid+1,by omega,by omega⟩;have hf3:=Ne.symm hf1;have hf4:=Ne.symm hf2;refine AW.skip ?_;refine AW.seq (AW.block ?_);refine AW.rseq (fid:=f) (mt:=[]) [3,8,9,21,22] rfl fun K hK=>?_;simp only [go_sem,reduceIte,Nat.reduceEqDiff,Int.reduceLE,hf1,hf2,hf3,hf4];intro nv;refine hK _ ?_;clear hK K;refine AW.seq ?_;refine AW.rseq (fid:=f) (mt:=[]) [3,9,21,22,26] rfl fun K hK=>?_;simp only [go_sem,reduceIte,Nat.reduceEqDiff,Int.reduceLE,hf1,hf2,hf3,hf4,Nat.add_left_cancel_iff];refine ⟨hf2,fun iv=>hK _ ?_⟩;clear hK K;refine AW.block ?_;have hlk:=lvl_keys (stp:=stp) (set:=set) (cs:=letters.take L) (letters_nodup.sublist (List.take_sublist _ _)) i
  refine AW.loopS (fun p:List WS × List WS × List (List UInt8 × HV) × Bool=>⟨[(3,.fptr [.int .i64 L,gS,gE] 0),(9,.mp (f*1000+24) nv),(21,.int .i64 n),(22,.int .i64 i),(26,.it (f*1000+26) iv)],
    [(aid,av,.map es),(f*1000+24,nv,.map p.2.2.1),(f*1000+26,iv,.iter aid av (p.1.map (·.1)) p.2.2.2)]⟩)
   (fun p=>(p.1++p.2.1).Perm (lvl stp (letters.take L) set i)∧p.2.2.1.Perm ((p.1.flatMap (ext1 stp (letters.take L))).map ent)∧(p.1.flatMap (ext1 stp (letters.take L))).length≤4096) (fun p=>p.2.1.length) ([],lvl stp (letters.take L) set i,[],false)
   (AS.le_of ⟨rfl,rfl,rfl,rfl,rfl,trivial⟩ ⟨hget_0,by simp [hget,hf1,hf2,hf3,hf4],by simp [hget,hf1,hf2,hf3,hf4],trivial⟩) ⟨List.Perm.refl _,List.Perm.refl _,Nat.zero_le _⟩ ?_
  rintro ⟨vis,rest,es',cur⟩ ⟨hvr,hes',hlen⟩
  dsimp only at hvr hes' hlen ⊢;refine AW.rseq (fid:=f) (mt:=[]) [3,9,21,22,26,28] rfl fun K hK=>?_;simp only [go_sem,reduceIte,Nat.reduceEqDiff,Int.reduceLE,hf1,hf2,hf3,hf4,Nat.add_left_cancel_iff];refine ⟨fun hall=>hK _ ?_,fun k v hkv hks=>hK _ ?_⟩
  ·clear hK K
   have hr:=rest_nil hlk hvr hes hall;subst hr;rw [List.append_nil] at hvr;have hnx:es'.Perm ((lvl stp (letters.take L) set (i+1)).map ent):=hes'.trans ((perm_flat hvr).map ent)
   have hln:(lvl stp (letters.take L) set (i+1)).length≤4096:=by
    have:=(perm_flat (stp:=stp) (cs:=letters.take L) hvr).length_eq;show ((lvl stp (letters.take L) set i).flatMap _).length≤4096;omega
   have hsz':∀ j,1≤j→j≤i+1→(lvl stp (letters.take L) set j).length≤4096:=fun j h1 h2=>by
    rcases Nat.lt_or_ge i j with h | h
    ·have:j=i+1:=by omega
     subst this; exact hln
    exact hsz j h1 h
   refine AW.cseq rfl (fun hc=>by cases hc) (fun _=>?_);refine AW.exit ?_;refine AW.rseq (fid:=f) (mt:=[]) [3,8,21,22] rfl fun K hK=>?_;simp only [go_sem,reduceIte,Nat.reduceEqDiff,Int.reduceLE,hf1,hf2,hf3,hf4,Nat.add_left_cancel_iff];refine hK _ ?_;clear hK K;refine AW.rseq (fid:=f) (mt:=[]) [3,8,21,22,59] rfl fun K hK=>?_;simp only [go_sem,reduceIte,Nat.reduceEqDiff,Int.reduceLE,hf1,hf2,hf3,hf4,Nat.add_left_cancel_iff];refine ⟨by rw [hes'.length_eq,List.length_map]; simp only [maxLen]; omega,hK _ ?_⟩;clear hK K;refine AW.cond rfl (fun hc=>?_) (fun hc=>?_)
   ·have h0:es'=[]:=by
     have:(es'.length:Int)=0:=by simpa using hc
     exact List.eq_nil_of_length_eq_zero (by omega)
    subst h0
    have hl0:lvl stp (letters.take L) set (i+1)=[]:=by
     have:=hnx.length_eq;simp only [List.length_nil,List.length_map] at this;exact List.eq_nil_of_length_eq_zero this.symm
    have hlj:=@lvl_nil stp (letters.take L) set (i+1) hl0;refine AW.exit ?_;refine AW.rseq (fid:=79) (mt:=[]) [6,7] rfl fun K hK=>?_;simp only [go_sem,reduceIte,Nat.reduceEqDiff,Int.reduceLE,hf1,hf2,hf3,hf4,Nat.add_left_cancel_iff];refine hK _ ?_;clear hK K;refine AW.ret ⟨.inr rfl,?_⟩;simp only [go_sem,reduceIte,Nat.reduceEqDiff];refine ⟨_,[(f*1000+24,nv,.map [])],Conv.drop (leH_get ⟨by simp [hget,hf1,hf2,hf3,hf4],trivial⟩),.inl ⟨fun j h1 h2=>?_,_,_,_,rfl,rfl,?_⟩⟩
    ·rcases Nat.lt_or_ge (i+1) j with h | h
     ·rw [hlj (by omega)]; simp
     exact hsz' j h1 h
    rw [hlj (by omega)]; exact List.Perm.refl _
   refine AW.skip ?_;refine AW.region (fid:=79) (mt:=[]) [3,8,21,22] rfl fun K hK=>?_;simp only [go_sem,reduceIte,Nat.reduceEqDiff,Int.reduceLE];refine hK _ ?_;clear hK K;refine ⟨(i+1,f*1000+24,nv,es'),⟨by dsimp only; omega,hnx,hsz'⟩,by dsimp only; omega,?_⟩;dsimp only;rw [cnt_next hn hi'];exact AS.le_of ⟨rfl,rfl,rfl,rfl,trivial⟩ ⟨by simp [hget,hf1,hf2,hf3,hf4],trivial⟩
  clear hK K;obtain ⟨x,l1,l2,rfl,hx,hvr'⟩:=next_pick hvr hes hkv hks;cases hx;have hxl:x∈lvl stp (letters.take L) set i:=hvr'.mem_iff.1 (by simp);have hxA:A x.2:=lvl_all hA0 hA i x hxl;have hxn:x.1.length=i:=lvl_len i x hxl;refine AW.cseq rfl (fun _=>?_) (fun hc=>by cases hc);refine AW.skip ?_;refine AW.block ?_;refine AW.rseq (fid:=f) (mt:=[]) [3,9,10,11,21,22,26] rfl fun K hK=>?_;simp only [go_sem,reduceIte,Nat.reduceEqDiff,Int.reduceLE,hf1,hf2,hf3,hf4,Nat.add_left_cancel_iff];refine ⟨_,alook_mem (perm_keys hes hlk) hkv,hK _ ?_⟩;clear hK K;refine AW.seq ?_;refine AW.rseq (fid:=f) (mt:=[]) [3,9,10,11,21,22,26,33,34] rfl fun K hK=>?_;simp only [go_sem,reduceIte,Nat.reduceEqDiff,Int.reduceLE,List.getElem?_cons_zero,Nat.add_zero];refine hK _ ?_;clear hK K;refine AW.block ?_
  refine AW.loopS (fun p:Nat × List (List UInt8 × HV)=>⟨[(3,.fptr [.int .i64 L,gS,gE] 0),(9,.mp (f*1000+24) nv),(10,.str x.1),(11,ints x.2),(21,.int .i64 n),(22,.int .i64 i),(26,.it (f*1000+26) iv),(33,.int .i64 L),(34,.int .i64 p.1)],
    [(aid,av,.map es),(f*1000+24,nv,.map p.2),(f*1000+26,iv,.iter aid av (x.1::vis.map (·.1)) true)]⟩)
   (fun p=>p.1≤L∧p.2.Perm ((vis.flatMap (ext1 stp (letters.take L))++ext1 stp ((letters.take L).take p.1) x).map ent)) (fun p=>L - p.1) (0,es')
   (AS.le_of ⟨rfl,rfl,rfl,rfl,rfl,rfl,rfl,rfl,rfl,trivial⟩ ⟨hget_0,by simp [hget,hf1,hf2,hf3,hf4],by simp [hget,hf1,hf2,hf3,hf4],trivial⟩) ⟨Nat.zero_le _,by simpa [ext1] using hes'⟩ ?_
  rintro ⟨j,es3⟩ ⟨hj,hes2⟩
  dsimp only at hj hes2 ⊢;refine AW.rseq (fid:=f) (mt:=[]) [3,9,10,11,21,22,26,33,34,35] rfl fun K hK=>?_;simp only [go_sem,reduceIte,Nat.reduceEqDiff,Int.reduceLE];refine hK _ ?_;clear hK K;refine AW.cseq rfl (fun hc=>?_) (fun hc=>?_)
  ·have hj':=dec_lt hc
   have hjl:j<letters.length:=by show j<16; omega
   have hjt:j<(letters.take L).length:=by rw [List.length_take]; exact Nat.lt_min.2 ⟨hj',hjl⟩
   have hcj:(letters.take L)[j]=letters[j]:=List.getElem_take;have hmem:letters[j]∈letters.take L:=hcj ▸ List.getElem_mem hjt;refine AW.skip ?_;refine AW.seq (AW.block ?_);refine AW.rseq (fid:=f) (mt:=[]) [3,9,10,11,12,21,22,26,33,34] rfl fun K hK=>?_;simp only [go_sem,reduceIte,Nat.reduceEqDiff,Int.reduceLE];refine hK _ ?_;clear hK K;have hlj:([48,49,50,51,52,53,54,55,56,57,97,98,99,100,101,102]:List UInt8)[j]?=some letters[j]:=List.getElem?_eq_getElem (l:=letters) hjl;refine AW.rseq (fid:=f) (mt:=[]) [3,9,10,11,13,21,22,26,33,34] rfl fun K hK=>?_;simp only [go_sem,reduceIte,Nat.reduceEqDiff,Int.reduceLE,List.length_nil,List.length_cons,Nat.reduceAdd,Nat.reduceLeDiff,hlj];refine ⟨by omega,hK _ ?_⟩;clear hK K;refine AW.rseq (fid:=f) (mt:=[]) [3,9,10,11,13,14,21,22,26,33,34] rfl fun K hK=>?_;simp only [go_sem,reduceIte,Nat.reduceEqDiff,Int.reduceLE,List.length_nil,List.length_cons,Nat.reduceAdd,Nat.reduceLeDiff,List.drop_zero,List.take_succ_cons,List.take_zero];refine (hstep x.2 letters[j] hxA hmem).use fun r hr=>?_;subst hr;refine hK _ ?_;clear hK K;refine AW.rseq (fid:=f) (mt:=[]) [3,9,10,11,13,14,21,22,26,33,34,45] rfl fun K hK=>?_;simp only [go_sem,ints,reduceIte,Nat.reduceEqDiff,Int.reduceLE];refine hK _ ?_;clear hK K;have hxk:x.1 ∉ vis.map (·.1):=hks;have htake:=ext1_take (stp:=stp) x hjt;rw [hcj] at htake;refine AW.cond rfl (fun hc=>?_) (fun hc=>?_)
   ·have hne:stp x.2 letters[j]≠[]:=by
     intro h0;rw [h0] at hc;simp at hc
    rw [if_neg hne] at htake;have hnew:alook (x.1++[letters[j]]) es3=none:=hcj ▸ key_new (letters_nodup.sublist (List.take_sublist _ _)) hxk hjt hes2;refine AW.region (fid:=f) (mt:=[]) [3,9,10,11,21,22,26,33,34] rfl fun K hK=>?_;simp only [go_sem,reduceIte,Nat.reduceEqDiff,Int.reduceLE,hf1,hf2,hf3,hf4,Nat.add_left_cancel_iff,utf_letters _ (List.getElem_mem hjl)];refine ⟨by simp only [List.length_cons,List.length_nil,maxLen,hxn]; omega,hf3,hK _ ?_⟩;clear hK K;refine AW.region (fid:=f) (mt:=[]) [3,9,10,11,21,22,26,33,34] rfl fun K hK=>?_;simp only [go_sem,reduceIte,Nat.reduceEqDiff,Int.reduceLE];refine hK _ ?_;clear hK K;refine ⟨(j+1,mput (x.1++[letters[j]]) (ints (stp x.2 letters[j])) es3),⟨by dsimp only; omega,?_⟩,by dsimp only; omega,?_⟩
    ·dsimp only
     rw [mput_new hnew,htake,← List.append_assoc,List.map_append];exact hes2.append (List.Perm.refl _)
    dsimp only;rw [cnt_next (by omega) hj'];exact AS.le_of ⟨rfl,rfl,rfl,rfl,rfl,rfl,rfl,rfl,rfl,trivial⟩ ⟨hget_0,by simp [hget,hf1,hf2,hf3,hf4,ints],by simp [hget,hf1,hf2,hf3,hf4],trivial⟩
   have he:stp x.2 letters[j]=[]:=by
    have:¬ 0<(stp x.2 letters[j]).length:=by simpa using hc
    exact List.eq_nil_of_length_eq_zero (by omega)
   rw [if_pos he,List.append_nil] at htake;refine AW.skip ?_;refine AW.region (fid:=f) (mt:=[]) [3,9,10,11,21,22,26,33,34] rfl fun K hK=>?_;simp only [go_sem,reduceIte,Nat.reduceEqDiff,Int.reduceLE];refine hK _ ?_;clear hK K;refine ⟨(j+1,es3),⟨by dsimp only; omega,?_⟩,by dsimp only; omega,?_⟩
   ·dsimp only
    rw [htake];exact hes2
   dsimp only;rw [cnt_next (by omega) hj'];exact AS.le_of ⟨rfl,rfl,rfl,rfl,rfl,rfl,rfl,rfl,rfl,trivial⟩ ⟨hget_0,by simp [hget,hf1,hf2,hf3,hf4],by simp [hget,hf1,hf2,hf3,hf4],trivial⟩
  have hj2:=cnt_ge hc hj;subst hj2
  have htk:(letters.take j).take j=letters.take j:=by rw [List.take_take,Nat.min_self]
  rw [htk] at hes2
  have hes3:es3.Perm (((x::vis).flatMap (ext1 stp (letters.take j))).map ent):=by
   refine hes2.trans (List.Perm.map _ ?_);rw [List.flatMap_cons];exact List.perm_append_comm
  refine AW.exit ?_;refine AW.rseq (fid:=f) (mt:=[]) [3,9,21,22,26,55] rfl fun K hK=>?_;simp only [go_sem,reduceIte,Nat.reduceEqDiff,Int.reduceLE,hf1,hf2,hf3,hf4,Nat.add_left_cancel_iff]
  have hle2:es3.length=((x::vis).flatMap (ext1 stp (letters.take j))).length:=by rw [hes3.length_eq,List.length_map]
  have htot:((x::vis).flatMap (ext1 stp (letters.take j))).length≤(lvl stp (letters.take j) set (i+1)).length:=by
   have:=(perm_flat (stp:=stp) (cs:=letters.take j) hvr').length_eq;rw [List.flatMap_append,List.length_append] at this;show _≤((lvl stp (letters.take j) set i).flatMap _).length;omega
  have hsmall:es3.length≤maxLen:=by
   have hb:∀ (y:WS),(ext1 stp (letters.take j) y).length≤16:=fun y=>by
    refine Nat.le_trans (List.length_filterMap_le _ _) ?_;rw [List.length_take];exact Nat.le_trans (Nat.min_le_left _ _) hL
   rw [hle2,List.flatMap_cons,List.length_append];have:=hb x;simp only [maxLen];omega
  refine ⟨hsmall,hK _ ?_⟩;clear hK K;refine AW.cond rfl (fun hc=>?_) (fun hc=>?_)
  ·have hbig:4096<es3.length:=by
    have:(4096:Int)<es3.length:=by simpa using hc
    omega
   refine AW.rseq (fid:=79) (mt:=[]) [6,7] rfl fun K hK=>?_;simp only [go_sem,reduceIte,Nat.reduceEqDiff,Int.reduceLE];refine hK _ ?_;clear hK K;refine AW.ret ⟨.inr rfl,?_⟩;simp only [go_sem,reduceIte,Nat.reduceEqDiff];exact ⟨_,[],Conv.drop (fun _ _ h=>by cases h),.inr ⟨i+1,by omega,by omega,by omega,rfl,rfl⟩⟩
  have hsm:es3.length≤4096:=by
   have:¬ (4096:Int)<es3.length:=by simpa using hc
   omega
  refine AW.skip ?_;refine ⟨(x::vis,l1++l2,es3,true),⟨hvr',hes3,by dsimp only; omega⟩,by simp,?_⟩;exact AS.le_of ⟨rfl,rfl,rfl,rfl,rfl,trivial⟩ ⟨hget_0,by simp [hget,hf1,hf2,hf3,hf4],by simp [hget,hf1,hf2,hf3,hf4],trivial⟩
 have hi2:=cnt_ge hc hi;subst hi2;refine AW.exit ?_;refine AW.rseq (fid:=79) (mt:=[]) [6,7] rfl fun K hK=>?_;simp only [go_sem,reduceIte,Nat.reduceEqDiff,Int.reduceLE];refine hK _ ?_;clear hK K;refine AW.ret ⟨.inr rfl,?_⟩;simp only [go_sem,reduceIte,Nat.reduceEqDiff];exact ⟨_,_,Conv.refl _ _,.inl ⟨hsz,_,_,_,rfl,rfl,hes⟩⟩
theorem pick_key {vis rest ks:List (List UInt8)} {k:List UInt8} (hp:(vis++rest).Perm ks) (hm:k∈ks) (hk:k ∉ vis):∃ l1 l2,rest=l1++k::l2∧((k::vis)++(l1++l2)).Perm ks:=by
 have hx:k∈rest:=(List.mem_append.1 (hp.mem_iff.2 hm)).resolve_left hk;obtain ⟨l1,l2,rfl⟩:=List.append_of_mem hx;refine ⟨l1,l2,rfl,List.Perm.trans ?_ hp⟩
 have e1:(k::vis)++(l1++l2)=k::((vis++l1)++l2):=by simp
 have e2:vis++(l1++k::l2)=(vis++l1)++k::l2:=by simp
 rw [e1,e2];exact List.perm_middle.symm
theorem no_rest {vis rest ks:List (List UInt8)} (hn:ks.Nodup) (hp:(vis++rest).Perm ks) (hall:∀ k∈ks,k∈vis):rest=[]:=by
 cases rest with
 | nil=>rfl
 | cons x rest =>
  have h1:=hp.nodup_iff.2 hn;have hx:x∈vis:=hall x (hp.mem_iff.1 (by simp));exact absurd rfl ((List.nodup_append.1 h1).2.2 x hx x (List.mem_cons_self ..))
theorem w127 {f mid mver lid lver:Nat} {es:List (List UInt8 × HV)} {H:Heap} {K:HV→Heap→Prop} (hn:(es.map (·.1)).Nodup) (hne:f*1000+5≠mid) (hm:hget H mid=some (mver,.map es)) (J:Nat→List (List UInt8)→Heap→Prop)
  (hJm:∀ iv vis H,J iv vis H→hget H mid=some (mver,.map es)) (hJi:∀ iv vis H,J iv vis H→∃ cur,hget H (f*1000+5)=some (iv,.iter mid mver vis cur))
  (h0:∀ iv,J iv [] (hset H (f*1000+5) iv (.iter mid mver [] false)))
  (hstep:∀ iv vis k H,J iv vis H→k∈es.map (·.1)→k ∉ vis→vis.length<es.length→YCall Tryz.prog lid lver [.str k] (hset H (f*1000+5) iv (.iter mid mver (k::vis) true)) fun r H'=>r=.bool true∧J iv (k::vis) H')
  (hdone:∀ iv vis H,J iv vis H→vis.Perm (es.map (·.1))→K (.tup []) H):ACall Tryz.prog 66 [.yl lid lver,.fptr [.mp mid mver] 0] H K:=by
 refine ACall.of_body Tryz.func66 rfl rfl (Nat.le_of_ble_eq_true rfl) ?_;unfold Tryz.f66;dsimp only [enumS,Nat.reduceAdd];refine AW.rseq (fid:=f) (mt:=[]) [0,5] rfl fun K1 hK1=>?_;simp only [go_sem,reduceIte,Nat.reduceEqDiff,Int.reduceLE,List.getElem?_cons_zero,hm];refine ⟨hne,fun iv=>hK1 _ ?_⟩;clear hK1 K1;refine AW.block ?_
 refine AW.loopS (fun p:List (List UInt8) × List (List UInt8) × Heap=>⟨[(0,.yl lid lver),(5,.it (f*1000+5) iv)],p.2.2⟩) (fun p=>(p.1++p.2.1).Perm (es.map (·.1))∧J iv p.1 p.2.2) (fun p=>p.2.1.length) ([],es.map (·.1),_)
  (AS.le_refl _) ⟨List.Perm.refl _,h0 iv⟩ ?_
 rintro ⟨vis,rest,H1⟩ ⟨hp,hj⟩
 dsimp only at hp hj ⊢;have hm1:=hJm _ _ _ hj;obtain ⟨cur,hi1⟩:=hJi _ _ _ hj;refine AW.rseq (fid:=f) (mt:=[]) [0,5,7] rfl fun K1 hK1=>?_;simp only [go_sem,reduceIte,Nat.reduceEqDiff,Int.reduceLE,hi1,hm1,List.getElem?_cons_zero];refine ⟨fun hall=>hK1 _ ?_,fun k v hkv hks=>hK1 _ ?_⟩
 ·clear hK1 K1
  have hr:=no_rest hn hp fun k hk=>by
   obtain ⟨q,hq,rfl⟩:=List.mem_map.1 hk;exact hall q hq
  subst hr;rw [List.append_nil] at hp;refine AW.cseq rfl (fun hc=>by cases hc) (fun _=>?_);refine AW.exit ?_;refine ⟨.inl rfl,?_⟩;simp only [go_sem,reduceIte,Nat.reduceEqDiff];exact ⟨_,_,Conv.refl _ _,hdone _ _ _ hj hp⟩
 clear hK1 K1;have hk:k∈es.map (·.1):=List.mem_map.2 ⟨_,hkv,rfl⟩;obtain ⟨l1,l2,rfl,hp'⟩:=pick_key hp hk hks;refine AW.cseq rfl (fun _=>?_) (fun hc=>by cases hc);refine AW.skip ?_;refine AW.block ?_;refine AW.rseq (fid:=f) (mt:=[]) [0,3,5] rfl fun K1 hK1=>?_;simp only [go_sem,reduceIte,Nat.reduceEqDiff,Int.reduceLE,hget_hset,hm1,if_neg (Ne.symm hne),List.getElem?_cons_zero];refine ⟨v,alook_mem hn hkv,hK1 _ ?_⟩;clear hK1 K1;refine AW.rseq (fid:=f) (mt:=[]) [0,5,13] rfl fun K1 hK1=>?_;simp only [go_sem,reduceIte,Nat.reduceEqDiff,Int.reduceLE];refine (hstep iv vis k H1 hj hk hks (by have:=hp.length_eq; simp at this; omega)).mono ?_
 rintro r H2 ⟨rfl,hj2⟩
 simp only [go_sem,reduceIte,Nat.reduceEqDiff,Int.reduceLE];refine hK1 _ ?_;clear hK1 K1;refine AW.cond rfl (fun hc=>by cases hc) (fun _=>?_);refine AW.skip ?_;exact ⟨(k::vis,l1++l2,H2),⟨hp',hj2⟩,by simp,⟨leS_get ⟨rfl,rfl,trivial⟩,fun _ _ h=>h⟩⟩
theorem AW.rangeFuncL {P:Program} {N:Nat} {s:AS} {Q:Exit→AS→Prop} {g:Operand} {ps:Array Tmp} {assign body:Code} {f:FuncId} {fs cs:List HV} (id:Nat) (hg:s.ev g=some (.fn (.func f) fs cs))
  (h:∀ fn ver (L:LoopState→Option Code→AObj),(∀ st pend,L st pend=.loop st pend fn N s.slots ps assign body)→ACall P f (fs++[.yl id ver]++cs) (hset s.heap id ver (L .ready none)) fun _ H' =>
   ∃ st pend,hget H' id=some (ver,L st pend)∧st ≠ .busy∧match pend with
    | none=>Q .normal { s with heap:=hset H' id ver (L .exhausted none) }
    | some c=>AW P none N c Q { s with heap:=hset H' id ver (L .exhausted (some c)) }) :
  AW P none N (.rangeFunc g ps assign body) Q s :=
 AW.rangeFunc id hg fun fn ver=>h fn ver (fun st pend=>.loop st pend fn N s.slots ps assign body) fun _ _=>rfl
set_option maxHeartbeats 1000000 in
theorem w160 {f mid mver:Nat} {es:List (List UInt8 × HV)} (hn:(es.map (·.1)).Nodup) (hbig:es.length≤1099511627776) (h2:f*1000+2≠mid) (h5:f*1000+5≠mid) (h11:f*1000+11≠mid) (h9:f*1000+900≠mid) :
  ACall Tryz.prog 85 [.v (.slice none 0 0),.fn (.func 66) [] [.fptr [.mp mid mver] 0]] [(mid,mver,.map es)] fun r H'=>∃ l,l.Perm (es.map (·.1))∧((l=[]∧r=.v (.slice none 0 0)∧H'=[]) ∨
   ∃ id av,l≠[]∧r=.ar id av 1 0 l.length∧H'=[(id,av,.arr 1 9 (l.map .str))]):=by
 refine ACall.of_body Tryz.func85 rfl rfl (Nat.le_of_ble_eq_true rfl) ?_;unfold Tryz.f85;dsimp only [enumS,Nat.reduceAdd];refine AW.rseq (fid:=f) (mt:=[2]) [1,2] rfl fun K hK=>?_;simp only [go_sem,reduceIte,Nat.reduceEqDiff,Int.reduceLE,h2];intro bv;refine hK _ ?_;clear hK K;refine AW.seq ?_;refine AW.rseq (fid:=f) (mt:=[2]) [2,6] rfl fun K hK=>?_;simp only [go_sem,reduceIte,Nat.reduceEqDiff,Int.reduceLE];refine hK _ ?_;clear hK K;refine AW.block ?_
 have n95:f*1000+900≠f*1000+5:=by simp
 have n92:f*1000+900≠f*1000+2:=by simp
 have n911:f*1000+900≠f*1000+11:=by simp
 have n52:f*1000+5≠f*1000+2:=by simp
 have n511:f*1000+5≠f*1000+11:=by simp
 have n112:f*1000+11≠f*1000+2:=by simp
 refine AW.rangeFuncL (f*1000+900) rfl fun fn lver L hL=>?_;dsimp only [List.length_cons,List.length_nil,Nat.reduceAdd] at hL ⊢
 refine w127 (f:=f) hn h5 (by rw [hget_hset,if_neg (Ne.symm h9)]; exact hget_0) (fun iv vis H=>hget H mid=some (mver,.map es)∧(∃ cur,hget H (f*1000+5)=some (iv,.iter mid mver vis cur)) ∧
  hget H (f*1000+900)=some (lver,L .ready none) ∧
  ((vis=[]∧hget H (f*1000+2)=some (bv,.arr 1 56 [.v (.slice none 0 0)])) ∨
   ∃ av,vis≠[]∧hget H (f*1000+2)=some (bv,.arr 1 56 [.ar (f*1000+11) av 1 0 vis.length])∧hget H (f*1000+11)=some (av,.arr 1 9 (vis.reverse.map .str)))) (fun _ _ _ h=>h.1) (fun _ _ _ h=>h.2.1) (fun iv=>?_) ?_ ?_
 ·simp [hget_hset,hget,hset,h2,h5,h9,h11,Ne.symm h2,Ne.symm h5,Ne.symm h9,Ne.symm h11]
 ·rintro iv vis k H1 ⟨hm,⟨cur,hi⟩,hlp,hac⟩ hk hks hlt
  rw [hL] at hlp;refine ⟨_,_,_,_,_,_,(by rw [hget_hset,if_neg n95]; exact hlp),rfl,by simp,fun l=>?_⟩;dsimp only [setPs];refine AW.region (fid:=f) (mt:=[2]) [2,5] rfl fun K hK=>?_;simp only [go_sem,reduceIte,Nat.reduceEqDiff,Int.reduceLE];refine hK _ ?_;clear hK K;refine ⟨rfl,by rw [hget_hset,if_neg n95]; exact hlp,?_⟩;refine AW.block ?_
  have fin:∀ (av:Nat) (H2:Heap) (o:AObj),o=L .ready none→hget H2 mid=some (mver,.map es)→hget H2 (f*1000+5)=some (iv,.iter mid mver (k::vis) true) →
    hget H2 (f*1000+2)=some (bv,.arr 1 56 [.ar (f*1000+11) av 1 0 (vis.length+1)])→hget H2 (f*1000+11)=some (av,.arr 1 9 ((k::vis).reverse.map .str)) →
    HV.bool true=.bool true∧hget (hset H2 (f*1000+900) lver o) mid=some (mver,.map es)∧(∃ cur,hget (hset H2 (f*1000+900) lver o) (f*1000+5)=some (iv,.iter mid mver (k::vis) cur)) ∧
  hget (hset H2 (f*1000+900) lver o) (f*1000+900)=some (lver,L .ready none) ∧
  ((k::vis=[]∧hget (hset H2 (f*1000+900) lver o) (f*1000+2)=some (bv,.arr 1 56 [.v (.slice none 0 0)])) ∨
   ∃ av,k::vis≠[]∧hget (hset H2 (f*1000+900) lver o) (f*1000+2)=some (bv,.arr 1 56 [.ar (f*1000+11) av 1 0 (k::vis).length])∧hget (hset H2 (f*1000+900) lver o) (f*1000+11)=some (av,.arr 1 9 ((k::vis).reverse.map .str))):=by
   intro av H2 o ho g1 g2 g4 g5;refine ⟨rfl,?_,⟨true,?_⟩,?_,.inr ⟨av,by simp,?_,?_⟩⟩
   ·rw [hget_hset,if_neg (Ne.symm h9)]; exact g1
   ·rw [hget_hset,if_neg (Ne.symm n95)]; exact g2
   ·rw [hget_hset,if_pos rfl,ho]
   ·rw [hget_hset,if_neg (Ne.symm n92)]; exact g4
   rw [hget_hset,if_neg (Ne.symm n911)]; exact g5
  have hm2:maxLen=9223372036854775807:=rfl
  rcases hac with ⟨rfl,hb⟩ | ⟨av,_,hb,ha⟩
  ·refine AW.region (fid:=f) (mt:=[2]) [2,5] rfl fun K hK=>?_
   simp only [go_sem,reduceIte,Nat.reduceEqDiff,Int.reduceLE,hget_hset,Nat.add_left_cancel_iff,hb,List.getElem?_cons_zero,Nat.add_zero,List.length_nil,List.length_cons,Nat.zero_le,HV.one,zrep,List.replicate_succ,List.replicate_zero,List.flatten_cons,List.flatten_nil,
    List.set_cons_zero,Option.any_some,Nat.reduceAdd,Nat.reduceMul,Nat.reduceLeDiff,Nat.reduceBEq,Bool.or_false,BEq.rfl,List.take_succ_cons,List.take_zero,List.drop_zero]
   refine ⟨by simp [maxLen],fun av'=>hK _ ?_⟩;clear hK K;refine ⟨?_,fin av' _ _ (hL _ _).symm ?_ ?_ ?_ ?_⟩
   ·rw [hget_hset,if_neg n92,hget_hset,if_neg n911,hget_hset,if_pos rfl]
   ·rw [hget_hset,if_neg (Ne.symm h2),hget_hset,if_neg (Ne.symm h11),hget_hset,if_neg (Ne.symm h9),hget_hset,if_neg (Ne.symm h5)]; exact hm
   ·rw [hget_hset,if_neg n52,hget_hset,if_neg n511,hget_hset,if_neg (Ne.symm n95),hget_hset,if_pos rfl]
   ·rw [hget_hset,if_pos rfl]; rfl
   rw [hget_hset,if_neg n112,hget_hset,if_pos rfl]; simp
  refine AW.region (fid:=f) (mt:=[2]) [2,5] rfl fun K hK=>?_
  simp only [go_sem,reduceIte,Nat.reduceEqDiff,Int.reduceLE,hget_hset,Nat.add_left_cancel_iff,hb,ha,List.getElem?_cons_zero,Nat.add_zero,List.length_nil,List.length_cons,Nat.zero_le,HV.one,zrep,List.replicate_succ,List.replicate_zero,List.flatten_cons,List.flatten_nil,
   List.set_cons_zero,Option.any_some,Nat.reduceAdd,Nat.reduceMul,Nat.reduceLeDiff,Nat.reduceBEq,Bool.or_false,BEq.rfl,List.take_succ_cons,List.take_zero,List.drop_zero]
  have hb1:(vis.length+1)*16≤140737488355328:=by clear fin hL hlp; omega
  have hb2:vis.length+1≤maxLen:=by clear fin hL hlp; omega
  refine ⟨by simp,hb1,hb2,fun av'=>hK _ ?_⟩;clear hK K;refine ⟨?_,fin av' _ _ (hL _ _).symm ?_ ?_ ?_ ?_⟩
  ·rw [hget_hset,if_neg n92,hget_hset,if_neg n911,hget_hset,if_pos rfl]
  ·rw [hget_hset,if_neg (Ne.symm h2),hget_hset,if_neg (Ne.symm h11),hget_hset,if_neg (Ne.symm h9),hget_hset,if_neg (Ne.symm h5)]; exact hm
  ·rw [hget_hset,if_neg n52,hget_hset,if_neg n511,hget_hset,if_neg (Ne.symm n95),hget_hset,if_pos rfl]
  ·rw [hget_hset,if_pos rfl]
  rw [hget_hset,if_neg n112,hget_hset,if_pos rfl,List.take_of_length_le (by simp)]; simp
 rintro iv vis H1 ⟨hm,_,hlp,⟨hv0,hb⟩ | ⟨av,hvn,hb,ha⟩⟩ hp
 ·refine ⟨.ready,none,hlp,by simp,?_⟩
  dsimp only [blockQ,thenQ];clear hL;refine AW.rseq (fid:=f) (mt:=[2]) [4] rfl fun K hK=>?_;simp only [go_sem,reduceIte,Nat.reduceEqDiff,Int.reduceLE,hget_hset,Nat.add_left_cancel_iff,hb,List.getElem?_cons_zero];refine hK _ ?_;clear hK K;refine AW.ret ⟨.inr rfl,?_⟩;simp only [go_sem,reduceIte,Nat.reduceEqDiff];exact ⟨_,[],Conv.drop (fun _ _ h=>by cases h),[],hv0 ▸ hp,.inl ⟨rfl,rfl,rfl⟩⟩
 refine ⟨.ready,none,hlp,by simp,?_⟩;dsimp only [blockQ,thenQ];clear hL;refine AW.rseq (fid:=f) (mt:=[2]) [4] rfl fun K hK=>?_;simp only [go_sem,reduceIte,Nat.reduceEqDiff,Int.reduceLE,hget_hset,Nat.add_left_cancel_iff,hb,List.getElem?_cons_zero];refine hK _ ?_;clear hK K;refine AW.ret ⟨.inr rfl,?_⟩;simp only [go_sem,reduceIte,Nat.reduceEqDiff];refine ⟨_,[(f*1000+11,av,.arr 1 9 (vis.reverse.map .str))],Conv.drop (leH_get ⟨?_,trivial⟩),vis.reverse,(List.reverse_perm vis).trans hp,.inr ⟨_,av,by simpa using hvn,by rw [List.length_reverse],rfl⟩⟩;rw [hget_hset,if_neg (Ne.symm n911)]; exact ha
def nilS:HV:=.v (.slice none 0 0)
theorem w126 {f mid mver:Nat} {es:List (List UInt8 × HV)} (hn:(es.map (·.1)).Nodup) (hbig:es.length≤1099511627776) (h2:f*1000+2≠mid) (h5:f*1000+5≠mid) (h11:f*1000+11≠mid) (h9:f*1000+900≠mid) :
  ACall Tryz.prog 64 [.fn (.func 66) [] [.fptr [.mp mid mver] 0]] [(mid,mver,.map es)] fun r H'=>∃ l,l.Perm (es.map (·.1))∧((l=[]∧r=.v (.slice none 0 0)∧H'=[]) ∨
   ∃ id av,l≠[]∧r=.ar id av 1 0 l.length∧H'=[(id,av,.arr 1 9 (l.map .str))]):=by
 refine ACall.of_body Tryz.func64 rfl rfl (Nat.le_of_ble_eq_true rfl) ?_;unfold Tryz.f64;dsimp only [enumS,Nat.reduceAdd];refine AW.rseq (fid:=f) (mt:=[]) [0] rfl fun K hK=>?_;simp only [go_sem,reduceIte,Nat.reduceEqDiff,Int.reduceLE];refine hK _ ?_;clear hK K;refine AW.rseq (fid:=f) (mt:=[]) [2] rfl fun K hK=>?_;simp only [go_sem,reduceIte,Nat.reduceEqDiff,Int.reduceLE];refine (w160 hn hbig h2 h5 h11 h9).mono ?_
 rintro r H' hr
 refine hK _ ?_;clear hK K;refine AW.ret ⟨.inr rfl,?_⟩;simp only [go_sem,reduceIte,Nat.reduceEqDiff];exact ⟨_,_,Conv.refl _ _,hr⟩
theorem w81 {f mid mver:Nat} {es:List (List UInt8 × HV)} (hn:(es.map (·.1)).Nodup) (hbig:es.length≤1099511627776) (h2:f*1000+2≠mid) (h5:f*1000+5≠mid) (h11:f*1000+11≠mid) (h9:f*1000+900≠mid) :
  ACall Tryz.prog 42 [.fn (.func 66) [] [.fptr [.mp mid mver] 0]] [(mid,mver,.map es)] fun r H'=>(es=[]∧r=nilS∧H'=[]) ∨
   ∃ id av,es≠[]∧r=.ar id av 1 0 es.length∧H'=[(id,av,.arr 1 9 ((sortS (es.map (·.1))).map .str))]:=by
 refine ACall.of_body Tryz.func42 rfl rfl (Nat.le_of_ble_eq_true rfl) ?_;unfold Tryz.f42;dsimp only [enumS,Nat.reduceAdd];refine AW.rseq (fid:=f) (mt:=[]) [0] rfl fun K hK=>?_;simp only [go_sem,reduceIte,Nat.reduceEqDiff,Int.reduceLE];refine hK _ ?_;clear hK K;refine AW.rseq (fid:=f) (mt:=[]) [3] rfl fun K hK=>?_;simp only [go_sem,reduceIte,Nat.reduceEqDiff,Int.reduceLE];refine (w126 hn hbig h2 h5 h11 h9).mono ?_
 rintro r H' ⟨l,hp,⟨rfl,rfl,rfl⟩ | ⟨id,av,hln,rfl,rfl⟩⟩
 ·refine hK _ ?_
  clear hK K
  have he:es=[]:=by
   have:=hp.length_eq;simp only [List.length_nil,List.length_map] at this;exact List.eq_nil_of_length_eq_zero this.symm
  refine AW.rseq (fid:=f) (mt:=[]) [3] rfl fun K hK=>?_;simp only [go_sem,reduceIte,Nat.reduceEqDiff,Int.reduceLE];refine w45n ?_;refine hK _ ?_;clear hK K;refine AW.rseq (fid:=f) (mt:=[]) [2] rfl fun K hK=>?_;simp only [go_sem,reduceIte,Nat.reduceEqDiff,Int.reduceLE];refine hK _ ?_;clear hK K;refine AW.ret ⟨.inr rfl,?_⟩;simp only [go_sem,reduceIte,Nat.reduceEqDiff];exact ⟨_,_,Conv.refl _ _,.inl ⟨he,rfl,rfl⟩⟩
 refine hK _ ?_;clear hK K;have hlen:=hp.length_eq;rw [List.length_map] at hlen;refine AW.rseq (fid:=f) (mt:=[]) [3] rfl fun K hK=>?_;simp only [go_sem,reduceIte,Nat.reduceEqDiff,Int.reduceLE];refine w45 hget_0 (by omega) ?_;simp only [go_sem,reduceIte,Nat.reduceEqDiff,Int.reduceLE];refine hK _ ?_;clear hK K;refine AW.rseq (fid:=f) (mt:=[]) [2] rfl fun K hK=>?_;simp only [go_sem,reduceIte,Nat.reduceEqDiff,Int.reduceLE];refine hK _ ?_;clear hK K;refine AW.ret ⟨.inr rfl,?_⟩;simp only [go_sem,reduceIte,Nat.reduceEqDiff];exact ⟨_,_,Conv.refl _ _,.inr ⟨id,av,by rintro rfl; exact hln (List.eq_nil_of_length_eq_zero hlen),by rw [hlen],by rw [sortS_perm hp]⟩⟩
theorem w82 {id ver:Nat} {H:Heap} {K:HV→Heap→Prop} (hK:K (.fn (.func 66) [] [.fptr [.mp id ver] 0]) H):ACall Tryz.prog 43 [.mp id ver] H K:=by
 refine ACall.of_body Tryz.func43 rfl rfl (Nat.le_of_ble_eq_true rfl) ?_;unfold Tryz.f43;dsimp only [enumS,Nat.reduceAdd];refine AW.rseq (fid:=82) (mt:=[]) [1] rfl fun K1 hK1=>?_;simp only [go_sem,reduceIte,Nat.reduceEqDiff,Int.reduceLE,HV.one];refine hK1 _ ?_;clear hK1 K1;refine AW.rseq (fid:=82) (mt:=[]) [2] rfl fun K1 hK1=>?_;simp only [go_sem,reduceIte,Nat.reduceEqDiff,Int.reduceLE];refine hK1 _ ?_;clear hK1 K1;refine AW.ret ⟨.inr rfl,?_⟩;simp only [go_sem,reduceIte,Nat.reduceEqDiff];exact ⟨_,_,Conv.refl _ _,hK⟩
noncomputable def stpM (g:TLabelsStatesEdges) (a:List Int) (c:UInt8):List Int:=(m_language_step g a (c.toNat:Int)).getD []
def StepsOk (g:TLabelsStatesEdges) (set:List Int):Prop:=∃ A:List Int→Prop,A set∧∀ a c,A a→c∈letters.take g.1.toNat→∃ b,m_language_step g a (c.toNat:Int)=some b∧A b
open Classical in
noncomputable def m_language_list (g:TLabelsStatesEdges) (set:List Int) (n:Int):Option (List WS × Bool) :=
 if 0≤g.1∧g.1≤16∧0≤n∧StepsOk g set then
  some (if okLvl (stpM g) (letters.take g.1.toNat) set n.toNat=true then (lvl (stpM g) (letters.take g.1.toNat) set n.toNat,true) else ([],false))
 else none
noncomputable def m_language_Words (p0:TLabelsStatesEdges) (p1:Int):Option ((List (List UInt8)) × Int) :=
 (m_language_lengths p0 p1).bind fun x1 =>
 if x1≠0 then
  some ([],x1)
 else
  (m_language_states p0).bind fun x3 =>
  (m_language_list p0 x3 p1).bind fun x5 =>
  if x5.2=true then
   some (sortS ((x5.1).map Prod.fst),0)
  else
   some ([],4)
set_option linter.unusedVariables false
theorem le_slH {l l':List (Nat × HV)} {H:Heap} (h:leS l l'):(⟨l,H⟩:AS).le ⟨l',H⟩:=⟨leS_get h,fun _ _ h=>h⟩
set_option maxRecDepth 100000 in
theorem iy_graph_leaving {g:TLabelsStatesEdges} {s:Int} {L:List (Int × TFromLabelTo)} (h:y_graph_leaving g s=some L):Yields Tryz.prog 70 [] [gF g,.fptr [hI s] 0] (L.map fun x=>[hI x.1,.agg [hI x.2.1,hI x.2.2.1,hI x.2.2.2]]):=by
  unfold y_graph_leaving at h;split at h
  · rename_i hm
    cases h;obtain ⟨gl,gs,es⟩:=g;dsimp only at hm ⊢;intro id ver H J Stop K hmn h0 hstep hdone hstop;refine ACall.of_body Tryz.func70 rfl rfl (lb rfl) ?_;unfold Tryz.f70;dsimp only [enumS,Nat.reduceAdd];refine AW.rgs rfl fun K1 hK=>?_;refine bv rfl (v_fieldAddrF fo24_2 rfl) (bv rfl (v_loadF ty22 rfl (l_lit rfl rfl)) (bv rfl (v_lenF rfl rfl ty22 rfl) (mv rfl rfl ?_)));refine b_nil (hK _ (AW.to (to_le (s':=⟨[(0,.yl id ver),(2,.fptr [hI s] 0),(7,slE eFromLabelTo es),(8,.int .i64 (es.length:Int)),(9,.int .i64 ((0:Nat):Int))],H⟩) (le_slH ⟨rfl,rfl,rfl,rfl,rfl,trivial⟩) ?_)));clear hK K1;refine AW.block ?_
    refine AW.loopS (fun p:Nat × Heap=>⟨[(0,.yl id ver),(2,.fptr [hI s] 0),(7,slE eFromLabelTo es),(8,.int .i64 (es.length:Int)),(9,.int .i64 (p.1:Int))],p.2⟩)
      (fun p=>p.1≤es.length∧J (leaveL (es.take p.1) s).length p.2) (fun p=>es.length - p.1) (0,H) (AS.le_refl _) ⟨Nat.zero_le _,h0⟩ ?_
    rintro ⟨i,H1⟩ ⟨hi,hj⟩
    dsimp only at hi hj ⊢;refine AW.rgs rfl fun K1 hK=>?_;refine bv rfl (v_bin rfl rfl b_lss) ?_;refine b_nil (hK _ ?_);clear hK K1;refine AW.cseq rfl (fun hc=>?_) (fun hc=>?_)
    · have hi':i<es.length:=by have:=of_decide_eq_true hc; omega
      have hx:idx es (i:Int)=some es[i]:=ix hi';obtain ⟨f,hf⟩:=fresh_id H1 5;refine AW.skip ?_;refine AW.seq (AW.block ?_);refine AW.rgs rfl fun K1 hK=>?_;refine mv rfl rfl (bv rfl (v_idxF ty22 es22 rfl rfl (idx_lt hx)) (bv rfl (v_loadF ty55 rfl (l_agg eFromLabelTo hx rfl rfl)) ?_));refine b_op rfl (o_alloc (fid:=f) (zs:=[hI 0,hI 0,hI 0]) (f*1000+5) rfl rfl ty55 rfl (fun ov=>?_));refine mv rfl rfl ?_;refine b_op rfl (o_store (cs:=cFromLabelTo es[i]) (zs:=cFromLabelTo es[i]) rfl rfl rfl ty55 rfl hget_0 rfl rfl rfl ?_);refine b_nil (hK _ (AW.to (to_le (s':=⟨[(0,.yl id ver),(2,.fptr [hI s] 0),(4,.int .i64 (i:Int)),(5,.ptr (f*1000+5) ov 0),(7,slE eFromLabelTo es),(8,.int .i64 (es.length:Int)),(9,.int .i64 (i:Int))],(f*1000+5,ov,.arr 3 55 (cFromLabelTo es[i]))::H1⟩) ⟨leS_get ⟨rfl,rfl,rfl,rfl,rfl,rfl,rfl,trivial⟩,fun j x hx=>?_⟩ ?_)))
      · simp only [hget] at hx ⊢
        split <;> rename_i hij
        · rw [if_pos hij] at hx; exact hx
        first | exact hx | (rw [if_neg hij] at hx; first | exact hx | (rw [if_neg hij]; exact hx)) | (rw [if_neg hij]; exact hx)
      clear hK K1;have hJ1:=hmn _ _ _ hj (cons_le (ver:=ov) (ob:=.arr 3 55 (cFromLabelTo es[i])) hf);refine AW.rgs rfl fun K1 hK=>?_;refine bv rfl (v_fieldAddrP fo55_0 rfl hget_0) (bv rfl (v_loadP ty3 rfl hget_0 (l_lit rfl rfl)) (bv rfl (v_loadF ty3 rfl (l_lit rfl rfl)) (bv rfl (v_bin rfl rfl b_eql) (mv rfl rfl ?_))));have htk:=leaveL_take es s hi';by_cases hs:es[i].1=s
      · rw [if_pos hs] at htk
        obtain ⟨rest,hr⟩:=leaveL_split es s (i+1);rw [htk] at hr;refine b_T rfl rfl rfl rfl (decide_eq_true hs) (o_val rfl (mv_val rfl rfl).2 ?_);refine b_T rfl rfl rfl rfl rfl (o_val rfl (mv_val rfl rfl).2 ?_);refine b_T rfl rfl rfl rfl rfl (o_val rfl (v_loadP ty55 rfl hget_0 (l_litA (ds:=cFromLabelTo es[i]) rfl (lb rfl) rfl)) ?_);refine b_T rfl rfl rfl rfl rfl (o_yield (hs:=[hI (i:Int),.agg (cFromLabelTo es[i])]) rfl rfl rfl ?_);refine (hstep (leaveL (es.take i) s).length [hI (i:Int),.agg (cFromLabelTo es[i])] _ ?_ hJ1).mono ?_
        · rw [List.getElem?_map,hr,List.append_assoc,List.getElem?_append_right (Nat.le_refl _),Nat.sub_self]
          rfl
        rintro r H2 ⟨b,rfl,h3,h4⟩
        refine b_T rfl rfl rfl rfl rfl (o_val rfl (v_not rfl) ?_);refine bv rfl (v_pickT rfl rfl rfl) ?_;refine b_nil (hK _ (AW.to (to_le (s':=⟨[(0,.yl id ver),(2,.fptr [hI s] 0),(7,slE eFromLabelTo es),(8,.int .i64 (es.length:Int)),(9,.int .i64 (i:Int)),(24,.bool (!b))],H2⟩) (le_slH ⟨rfl,rfl,rfl,rfl,rfl,rfl,trivial⟩) ?_)));clear hK K1;refine AW.cond rfl (fun hc=>?_) (fun hc=>?_)
        · have hb:b=false:=by simpa using hc
          refine AW.ret ⟨.inr rfl,?_⟩;simp only [go_sem,reduceIte,Nat.reduceEqDiff];exact ⟨_,_,Conv.refl _ _,hstop _ (h4 hb)⟩
        have hb:b=true:=by simpa using hc
        refine AW.skip ?_;refine AW.region (fid:=f) (mt:=[]) [0,2,7,8,9] rfl fun K hK=>?_;simp only [go_sem,reduceIte,Nat.reduceEqDiff,Int.reduceLE];refine hK _ ?_;refine ⟨(i+1,H2),⟨by dsimp only; omega,?_⟩,by dsimp only; omega,?_⟩
        · dsimp only
          rw [htk,List.length_append];exact h3 hb
        dsimp only;rw [cnt_next hm hi'];exact AS.le_refl _
      rw [if_neg hs,List.append_nil] at htk;refine b_F rfl rfl rfl rfl rfl (decide_eq_false hs) ?_
      iterate 4 refine b_F rfl rfl rfl rfl rfl rfl ?_
      refine bv rfl (v_pickF rfl rfl rfl) ?_;refine b_nil (hK _ (AW.to (to_le (s':=⟨[(0,.yl id ver),(2,.fptr [hI s] 0),(7,slE eFromLabelTo es),(8,.int .i64 (es.length:Int)),(9,.int .i64 (i:Int)),(24,.bool false)],_⟩) (le_slH ⟨rfl,rfl,rfl,rfl,rfl,rfl,trivial⟩) ?_)));clear hK K1;refine AW.cond rfl (fun hc=>by cases hc) (fun _=>?_);refine AW.skip ?_;refine AW.region (fid:=f) (mt:=[]) [0,2,7,8,9] rfl fun K hK=>?_;simp only [go_sem,reduceIte,Nat.reduceEqDiff,Int.reduceLE];refine hK _ ?_;refine ⟨(i+1,(f*1000+5,ov,.arr 3 55 (cFromLabelTo es[i]))::H1),⟨by dsimp only; omega,?_⟩,by dsimp only; omega,?_⟩
      · dsimp only
        rw [htk];exact hJ1
      dsimp only;rw [cnt_next hm hi'];exact AS.le_refl _
    have hi2:es.length≤i:=by have:=of_decide_eq_false hc; omega
    have hie:i=es.length:=by omega
    subst hie;rw [List.take_length] at hj;refine AW.exit ?_;refine ⟨.inl rfl,?_⟩;simp only [go_sem,reduceIte,Nat.reduceEqDiff];exact ⟨_,_,Conv.refl _ _,hdone _ (by rw [List.length_map]; exact hj)⟩
  cases h
def m_slices_Clone_Lint_int (l:List Int):Option (List Int):=if l.length≤1099511627776 then some l else none
noncomputable def m_slices_Equal_Lint_int (p0:List (Int)) (p1:List (Int)):Option (Bool) :=
 if ((p0).length:Int)≠((p1).length:Int) then
  some false
 else
  lpO (loopW (S:=Int) (X:=Ou (Unit) (Bool)) (fun a1 =>
    if a1<((p0).length:Int) then
     (idx p0 a1).bind fun x5 =>
     (idx p1 a1).bind fun x7 =>
     if x5≠x7 then
      some (Stp.exit (Ou.ret false))
     else
      some (Stp.next (IntKind.wrap .i64 (a1+1)))
    else
     some (Stp.exit (Ou.go ()))) 0) (fun a9 =>
    some true) some
set_option maxHeartbeats 1600000
set_option maxRecDepth 100000
theorem w_graph_list {p0:TFromLabelTo} {r:(List (Int))} (h:m_graph_list p0=some r):Pure Tryz.prog 49 [.agg [hI p0.1,hI p0.2.1,hI p0.2.2]] (· = slE eInt r):=by
 unfold m_graph_list at h;refine Pure.of_body Tryz.func49 rfl rfl (lb rfl) fun hf=>?_;unfold Tryz.f49;dsimp only [enumS,Nat.reduceAdd];refine AW.rgs rfl fun K hK=>b_op rfl (o_box rfl rfl rfl ?_);refine mv rfl rfl ?_;refine bf hK ⟨[(1,.fptr [hI p0.1,hI p0.2.1,hI p0.2.2] 0)],[]⟩ ?_;refine AW.rgs rfl fun K hK=>bv rfl (v_fieldAddrF fo55_0 rfl) (bv rfl (v_loadF ty3 rfl (l_lit rfl rfl)) (bv rfl (v_fieldAddrF fo55_1 rfl) (bv rfl (v_loadF ty3 rfl (l_lit rfl rfl)) (bv rfl (v_fieldAddrF fo55_2 rfl) (bv rfl (v_loadF ty3 rfl (l_lit rfl rfl)) ?_)))));refine b_op rfl (o_bsl rfl rfl (as_of (cs:=[hI p0.1,hI p0.2.1,hI p0.2.2]) ty25 ty3 rfl rfl rfl rfl rfl) ?_);refine mv rfl rfl ?_;refine bf hK ⟨[(2,slE eInt [p0.1,p0.2.1,p0.2.2])],[]⟩ ?_;obtain rfl:=oi h;exact AW.ret (ret_pure (.inr rfl) (resT rfl rfl) rfl (clean_slE fun _ _=>⟨trivial,trivial⟩))
theorem w_cmp_isNaN_int {p0:Int} {r:Bool} (h:m_cmp_isNaN_int p0=some r):Pure Tryz.prog 115 [hI p0] (· = HV.bool r):=by
 unfold m_cmp_isNaN_int at h;refine Pure.of_body Tryz.func115 rfl rfl (lb rfl) fun hf=>?_;unfold Tryz.f115;dsimp only [enumS,Nat.reduceAdd];refine AW.rgs rfl fun K hK=>mv rfl rfl ?_;refine bf hK ⟨[(0,hI p0)],[]⟩ ?_;refine AW.rgs rfl fun K hK=>mv rfl rfl (mv rfl rfl (bv rfl (v_bin rfl rfl b_neq) (mv rfl rfl ?_)));refine bf hK ⟨[(2,.bool (decide (p0≠p0)))],[]⟩ ?_;obtain rfl:=oi h;exact AW.ret (ret_pure (.inr rfl) (resT rfl rfl) rfl trivial)
theorem w_cmp_Compare_int {p0:Int} {p1:Int} {r:Int} (h:m_cmp_Compare_int p0 p1=some r):Pure Tryz.prog 99 [hI p0,hI p1] (· = hI r):=by
 unfold m_cmp_Compare_int at h;refine Pure.of_body Tryz.func99 rfl rfl (lb rfl) fun hf=>?_;unfold Tryz.f99;dsimp only [enumS,Nat.reduceAdd];refine AW.rgs rfl fun K hK=>mv rfl rfl ?_;let P1:ASf:=fun t H=>⟨(0,hI p0)::(1,hI p1)::t,H⟩;refine bf hK (P1 [] []) ?_;refine AW.rgs rfl fun K hK=>mv rfl rfl ?_;obtain ⟨x1,h2,h⟩:=bS h;refine b_op rfl (o_call rfl rfl rfl rfl (ACallD.pure0 (w_cmp_isNaN_int h2)) ?_);refine mv rfl rfl ?_;refine bf hK (P1 [(5,.bool x1)] []) ?_;refine AW.rgs rfl fun K hK=>mv rfl rfl ?_;obtain ⟨x3,h4,h⟩:=bS h;refine b_op rfl (o_call rfl rfl rfl rfl (ACallD.pure0 (w_cmp_isNaN_int h4)) ?_);refine mv rfl rfl ?_;refine bf hK (P1 [(5,.bool x1),(6,.bool x3)] []) ?_;refine AW.seq ?_;refine AW.rgs rfl fun K hK=>mv rfl rfl ?_;refine bf hK (P1 [(6,.bool x3),(11,.bool x1)] []) ?_;refine AW.cond rfl (fun hc=>?_) (fun hc=>?_)
 ·have h:=ifT hc h
  refine AW.seq ?_;refine AW.rgs rfl fun K hK=>mv rfl rfl ?_;refine bf hK ⟨[(12,.bool x3)],[]⟩ ?_;refine AW.cond rfl (fun hc=>?_) (fun hc=>?_)
  ·have h:=ifT hc h
   refine AW.rgs rfl fun K hK=>mv rfl rfl ?_;refine bf hK ⟨[(4,hI 0)],[]⟩ ?_;obtain rfl:=oi h;exact AW.ret (ret_pure (.inr rfl) (resT rfl rfl) rfl trivial)
  have h:=ifF (bF' hc) h;refine AW.skip ?_;refine AW.rgs rfl fun K hK=>mv rfl rfl ?_;refine bf hK ⟨[(4,hI (-1))],[]⟩ ?_;obtain rfl:=oi h;exact AW.ret (ret_pure (.inr rfl) (resT rfl rfl) rfl trivial)
 have h:=ifF (bF' hc) h;refine AW.skip ?_;refine AW.seq ?_;refine AW.rgs rfl fun K hK=>mv rfl rfl ?_;refine bf hK (P1 [(13,.bool x3)] []) ?_;refine AW.cond rfl (fun hc=>?_) (fun hc=>?_)
 ·have h:=ifT hc h
  refine AW.rgs rfl fun K hK=>mv rfl rfl ?_;refine bf hK ⟨[(4,hI 1)],[]⟩ ?_;obtain rfl:=oi h;exact AW.ret (ret_pure (.inr rfl) (resT rfl rfl) rfl trivial)
 have h:=ifF (bF' hc) h;refine AW.skip ?_;refine AW.seq ?_;refine AW.rgs rfl fun K hK=>mv rfl rfl (mv rfl rfl (bv rfl (v_bin rfl rfl b_lss) ?_));refine bf hK (P1 [(16,.bool (decide (p0<p1)))] []) ?_;refine AW.cond rfl (fun hc=>?_) (fun hc=>?_)
 ·obtain ⟨hc,h⟩:=cT hc h
  refine AW.rgs rfl fun K hK=>mv rfl rfl ?_;refine bf hK ⟨[(4,hI (-1))],[]⟩ ?_;obtain rfl:=oi h;exact AW.ret (ret_pure (.inr rfl) (resT rfl rfl) rfl trivial)
 obtain ⟨hc,h⟩:=cF hc h;refine AW.skip ?_;refine AW.seq ?_;refine AW.rgs rfl fun K hK=>mv rfl rfl (mv rfl rfl (bv rfl (v_bin rfl rfl b_gtr) ?_));refine bf hK ⟨[(19,.bool (decide (p1<p0)))],[]⟩ ?_;refine AW.cond rfl (fun hc=>?_) (fun hc=>?_)
 ·obtain ⟨hc,h⟩:=cT hc h
  refine AW.rgs rfl fun K hK=>mv rfl rfl ?_;refine bf hK ⟨[(4,hI 1)],[]⟩ ?_;obtain rfl:=oi h;exact AW.ret (ret_pure (.inr rfl) (resT rfl rfl) rfl trivial)
 obtain ⟨hc,h⟩:=cF hc h;refine AW.skip ?_;refine AW.rgs rfl fun K hK=>mv rfl rfl ?_;refine bf hK ⟨[(4,hI 0)],[]⟩ ?_;obtain rfl:=oi h;exact AW.ret (ret_pure (.inr rfl) (resT rfl rfl) rfl trivial)
theorem w_slices_Compare_Lint_int {p0:List (Int)} {p1:List (Int)} {r:Int} (h:m_slices_Compare_Lint_int p0 p1=some r):Pure Tryz.prog 74 [slE eInt p0,slE eInt p1] (· = hI r):=by
 unfold m_slices_Compare_Lint_int at h;refine Pure.of_body Tryz.func74 rfl rfl (lb rfl) fun hf=>?_;unfold Tryz.f74;dsimp only [enumS,Nat.reduceAdd];refine AW.rgs rfl fun K hK=>mv rfl rfl ?_;let P2:ASf:=fun t H=>⟨(0,slE eInt p0)::(1,slE eInt p1)::t,H⟩;refine bf hK (P2 [] []) ?_;refine AW.seq ?_;refine AW.rgs rfl fun K hK=>mv rfl rfl (bv rfl (v_lenF rfl rfl ty25 rfl) (mv rfl rfl ?_));let E1:Nat × HV:=(10,hI ((p0).length:Int));refine bf hK (P2 [(9,slE eInt p0),E1,(11,hI 0)] []) ?_;refine AW.lpR h (by first | exact up_then | exact up_to) (S:=Int) (V:=Unit) (fun a v=>(P2 [(9,slE eInt p0),E1,(11,hI a)] [])) ?_ (X:=Unit) (W:=Unit) (fun a v=>(P2 [] [])) (fun a11 w12 h=>?_) (fun a1 w2 st3 h hr4=> ?_)
 ·exact to_L ⟨(),rfl⟩
 ·refine AW.seq ?_
  refine AW.rgs rfl fun K hK=>mv rfl rfl (bv rfl (v_lenF rfl rfl ty25 rfl) (mv rfl rfl (bv rfl (v_lenF rfl rfl ty25 rfl) (bv rfl (v_bin rfl rfl b_lss) ?_))));refine bf hK ⟨[(35,.bool (decide (((p0).length:Int)<((p1).length:Int))))],[]⟩ ?_;refine AW.cond rfl (fun hc=>?_) (fun hc=>?_)
  ·obtain ⟨hc,h⟩:=cT hc h
   refine AW.rgs rfl fun K hK=>mv rfl rfl ?_;refine bf hK ⟨[(4,hI (-1))],[]⟩ ?_;obtain rfl:=oi h;exact AW.ret (ret_pure (.inr rfl) (resT rfl rfl) rfl trivial)
  obtain ⟨hc,h⟩:=cF hc h;refine AW.skip ?_;refine AW.rgs rfl fun K hK=>mv rfl rfl ?_;refine bf hK ⟨[(4,hI 0)],[]⟩ ?_;obtain rfl:=oi h;exact AW.ret (ret_pure (.inr rfl) (resT rfl rfl) rfl trivial)
 refine AW.rgs rfl fun K hK=>bv rfl (v_bin rfl rfl b_lss) ?_;refine bf hK (P2 [(9,slE eInt p0),E1,(11,hI a1),(12,.bool (decide (a1<((p0).length:Int))))] []) ?_;refine AW.cseq rfl (fun hc=>?_) (fun hc=>?_)
 ·obtain ⟨hc,h⟩:=cT hc h
  refine AW.skip ?_;refine AW.seq (AW.block ?_);refine AW.rgs rfl fun K hK=>mv rfl rfl ?_;obtain ⟨x5,h6,h⟩:=bS h;refine bv rfl (v_idxF ty25 es25 rfl rfl (idx_lt h6)) (bv rfl (v_loadF ty3 rfl (l_cell eInt h6 (o:=0) rfl rfl)) (mv rfl rfl (mv rfl rfl ?_)));refine bf hK (P2 [(5,hI a1),(6,hI x5),(9,slE eInt p0),E1,(11,hI a1)] []) ?_;refine AW.seq ?_;refine AW.rgs rfl fun K hK=>mv rfl rfl (mv rfl rfl (bv rfl (v_lenF rfl rfl ty25 rfl) (bv rfl (v_bin rfl rfl b_geq) ?_)));refine bf hK (P2 [(5,hI a1),(6,hI x5),(9,slE eInt p0),E1,(11,hI a1),(19,.bool (decide (((p1).length:Int)≤a1)))] []) ?_;refine AW.cond rfl (fun hc=>?_) (fun hc=>?_)
  ·obtain ⟨hc,h⟩:=cT hc h
   refine AW.rgs rfl fun K hK=>mv rfl rfl ?_;refine bf hK ⟨[(4,hI 1)],[]⟩ ?_;have h:=hr4 _ h;obtain rfl:=oi h;exact AW.ret (ret_pure (.inr rfl) (resT rfl rfl) rfl trivial)
  obtain ⟨hc,h⟩:=cF hc h;refine AW.skip ?_;refine AW.rgs rfl fun K hK=>mv rfl rfl (mv rfl rfl ?_);obtain ⟨x7,h8,h⟩:=bS h;refine bv rfl (v_idxF ty25 es25 rfl rfl (idx_lt h8)) (bv rfl (v_loadF ty3 rfl (l_cell eInt h8 (o:=0) rfl rfl)) (mv rfl rfl ?_));refine bf hK (P2 [(6,hI x5),(7,hI x7),(9,slE eInt p0),E1,(11,hI a1)] []) ?_;refine AW.rgs rfl fun K hK=>mv rfl rfl (mv rfl rfl ?_);obtain ⟨x9,h10,h⟩:=bS h;refine b_op rfl (o_call rfl rfl rfl rfl (ACallD.pure0 (w_cmp_Compare_int h10)) ?_);refine mv rfl rfl ?_;refine bf hK (P2 [(8,hI x9),(9,slE eInt p0),E1,(11,hI a1)] []) ?_;refine AW.rgs rfl fun K hK=>mv rfl rfl (bv rfl (v_bin rfl rfl b_neq) ?_);refine bf hK (P2 [(8,hI x9),(9,slE eInt p0),E1,(11,hI a1),(28,.bool (decide (x9≠0)))] []) ?_;refine AW.cond rfl (fun hc=>?_) (fun hc=>?_)
  ·obtain ⟨hc,h⟩:=cT hc h
   refine AW.rgs rfl fun K hK=>mv rfl rfl (mv rfl rfl ?_);refine bf hK ⟨[(4,hI x9)],[]⟩ ?_;have h:=hr4 _ h;obtain rfl:=oi h;exact AW.ret (ret_pure (.inr rfl) (resT rfl rfl) rfl trivial)
  obtain ⟨hc,h⟩:=cF hc h;refine AW.skip ?_;refine AW.rg rfl fun K hK=>bv rfl (v_bin rfl rfl b_add) (mv rfl rfl ?_);refine b_nil (hK _ ?_);exact to_L ⟨IntKind.wrap .i64 (a1+1),(),h,rfl⟩
 obtain ⟨hc,h⟩:=cF hc h;refine AW.exit ?_;exact to_L ⟨(),(),h,rfl⟩
theorem w_graph_by_api_Edge_1 {p0:TFromLabelTo} {p1:TFromLabelTo} {r:Int} (h:m_graph_by_api_Edge_1 p0 p1=some r):Pure Tryz.prog 73 [.agg [hI p0.1,hI p0.2.1,hI p0.2.2],.agg [hI p1.1,hI p1.2.1,hI p1.2.2],.fptr [.fn (.func 49) [] []] 0] (· = hI r):=by
 unfold m_graph_by_api_Edge_1 at h;refine Pure.of_body Tryz.func73 rfl rfl (lb rfl) fun hf=>?_;unfold Tryz.f73;dsimp only [enumS,Nat.reduceAdd];refine AW.rgs rfl fun K hK=>b_op rfl (o_box rfl rfl rfl ?_);refine b_op rfl (o_box rfl rfl rfl ?_);refine mv rfl rfl ?_;refine bf hK ⟨[(2,.fptr [.fn (.func 49) [] []] 0),(3,.fptr [hI p0.1,hI p0.2.1,hI p0.2.2] 0),(4,.fptr [hI p1.1,hI p1.2.1,hI p1.2.2] 0)],[]⟩ ?_;refine AW.dgs 8 follows rfl rfl fun K hK=>?_;refine sv rfl (v_loadF ty93 rfl (l_lit rfl rfl)) ?_;refine sv rfl (v_loadF ty55 rfl (l_litA rfl (lb rfl) rfl)) ?_;obtain ⟨x1,h2,h⟩:=bS h;refine s_op rfl rfl (ops_call rfl rfl rfl rfl (ACallD.pure0 (w_graph_list h2)) ?_);refine sv rfl (v_loadF ty93 rfl (l_lit rfl rfl)) ?_;refine sv rfl (v_loadF ty55 rfl (l_litA rfl (lb rfl) rfl)) ?_;obtain ⟨x3,h4,h⟩:=bS h;refine s_op rfl rfl (ops_call rfl rfl rfl rfl (ACallD.pure0 (w_graph_list h4)) ?_);obtain ⟨x5,h6,h⟩:=bS h;refine s_op rfl rfl (ops_call rfl rfl rfl rfl (ACallD.pure0 (w_slices_Compare_Lint_int h6)) ?_);refine sm rfl rfl ?_;refine s_nil ?_;refine bf hK ⟨[(5,hI x5)],[]⟩ ?_;obtain rfl:=oi h;exact AW.ret (ret_pure (.inr rfl) (resT rfl rfl) rfl trivial)
theorem w_graph_by_api_Edge  : Pure Tryz.prog 48 [.fn (.func 49) [] []] (· = HV.fn (.func 73) [] [.fptr [.fn (.func 49) [] []] 0]):=by
 refine Pure.of_body Tryz.func48 rfl rfl (lb rfl) fun hf=>?_;unfold Tryz.f48;dsimp only [enumS,Nat.reduceAdd];refine AW.rgs rfl fun K hK=>b_op rfl (o_box rfl rfl rfl ?_);refine mv rfl rfl ?_;refine bf hK ⟨[(1,.fptr [.fn (.func 49) [] []] 0)],[]⟩ ?_;refine AW.rgs rfl fun K hK=>bv rfl (v_func rfl rfl) (mv rfl rfl ?_);refine bf hK ⟨[(2,.fn (.func 73) [] [.fptr [.fn (.func 49) [] []] 0])],[]⟩ ?_;refine AW.ret ?_;exact ret_pure (.inr rfl) (resT rfl rfl) rfl ⟨trivial,⟨⟨⟨trivial,trivial⟩,trivial⟩,trivial⟩⟩
theorem w_graph_Check {p0:TLabelsStatesEdges} {r:Int} (h:m_graph_Check p0=some r):Pure Tryz.prog 35 [gA p0] (· = hI r):=by
 unfold m_graph_Check at h;refine Pure.of_body Tryz.func35 rfl rfl (lb rfl) fun hf=>?_;unfold Tryz.f35;dsimp only [enumS,Nat.reduceAdd];refine AW.rgs rfl fun K hK=>b_op rfl (o_box rfl rfl rfl ?_);refine mv rfl rfl ?_;let P3:ASf:=fun t H=>⟨(1,gF p0)::t,H⟩;refine bf hK (P3 [] []) ?_;refine AW.seq (AW.block ?_);refine AW.seqJ h (S:=Bool) (V:=Unit) (fun a v=>(P3 [(6,.bool a)] [])) (fun a1 w2 h=>?_) (fun k3 h=>?_)
 ·refine AW.cond rfl (fun hc=>?_) (fun hc=>?_)
  ·have h:=ifT hc h
   refine AW.rgs rfl fun K hK=>mv rfl rfl ?_;refine bf hK ⟨[(2,hI 12)],[]⟩ ?_;obtain rfl:=oi h;exact AW.ret (ret_pure (.inr rfl) (resT rfl rfl) rfl trivial)
  have h:=ifF (bF' hc) h;refine AW.rgs rfl fun K hK=>bv rfl (v_fieldAddrF fo24_1 rfl) (bv rfl (v_loadF ty3 rfl (l_lit rfl rfl)) (bv rfl (v_bin rfl rfl b_lss) (mv rfl rfl ?_)));refine bf hK (P3 [(15,.bool (decide (p0.2.1<0)))] []) ?_;refine AW.cond rfl (fun hc=>?_) (fun hc=>?_)
  ·obtain ⟨hc,h⟩:=cT hc h
   refine AW.rgs rfl fun K hK=>mv rfl rfl ?_;refine bf hK ⟨[(2,hI 2)],[]⟩ ?_;obtain rfl:=oi h;exact AW.ret (ret_pure (.inr rfl) (resT rfl rfl) rfl trivial)
  obtain ⟨hc,h⟩:=cF hc h;refine AW.seqJ h (S:=Bool) (V:=Unit) (fun a v=>(P3 [(19,.bool a)] [])) (fun a4 w5 h=>?_) (fun k6 h=>?_)
  ·refine AW.cond rfl (fun hc=>?_) (fun hc=>?_)
   ·have h:=ifT hc h
    refine AW.rgs rfl fun K hK=>mv rfl rfl ?_;refine bf hK ⟨[(2,hI 4)],[]⟩ ?_;obtain rfl:=oi h;exact AW.ret (ret_pure (.inr rfl) (resT rfl rfl) rfl trivial)
   have h:=ifF (bF' hc) h;refine AW.skip ?_;refine AW.rgs rfl fun K hK=>b_op rfl (o_call rfl rfl rfl rfl (ACallD.pure0 (w_graph_by_api_Edge )) ?_);refine mv rfl rfl ?_;let E2:Nat × HV:=(3,.fn (.func 73) [] [.fptr [.fn (.func 49) [] []] 0]);refine bf hK (P3 [E2] []) ?_;refine AW.seq ?_;refine AW.rgs rfl fun K hK=>bv rfl (v_fieldAddrF fo24_2 rfl) (bv rfl (v_loadF ty22 rfl (l_lit rfl rfl)) (bv rfl (v_lenF rfl rfl ty22 rfl) (mv rfl rfl ?_)));let E3:Nat × HV:=(31,slE eFromLabelTo p0.2.2);let E4:Nat × HV:=(32,hI ((p0.2.2).length:Int));refine bf hK (P3 [E2,E3,E4,(33,hI 0)] []) ?_;refine AW.lpR h (by first | exact up_then | exact up_to) (S:=Int) (V:=Unit) (fun a v=>(P3 [E2,E3,E4,(33,hI a)] [])) ?_ (X:=Unit) (W:=Unit) (fun a v=>⟨[],[]⟩) (fun a27 w28 h=>?_) (fun a7 w8 st9 h hr10=> ?_)
   ·exact to_L ⟨(),rfl⟩
   ·refine AW.rgs rfl fun K hK=>mv rfl rfl ?_
    refine bf hK ⟨[(2,hI 0)],[]⟩ ?_;obtain rfl:=oi h;exact AW.ret (ret_pure (.inr rfl) (resT rfl rfl) rfl trivial)
   refine AW.rgs rfl fun K hK=>bv rfl (v_bin rfl rfl b_lss) ?_;refine bf hK (P3 [E2,E3,E4,(33,hI a7),(34,.bool (decide (a7<((p0.2.2).length:Int))))] []) ?_;refine AW.cseq rfl (fun hc=>?_) (fun hc=>?_)
   ·obtain ⟨hc,h⟩:=cT hc h
    refine AW.skip ?_;refine AW.seq (AW.block ?_);refine AW.rgs rfl fun K hK=>mv rfl rfl ?_;obtain ⟨x11,h12,h⟩:=bS h;refine bv rfl (v_idxF ty22 es22 rfl rfl (idx_lt h12)) (bv rfl (v_loadF ty55 rfl (l_agg eFromLabelTo h12 rfl rfl)) ?_);refine b_op rfl (o_alloc (fid:=35) (zs:=[hI 0,hI 0,hI 0]) 35005 rfl rfl ty55 rfl (fun v13=>?_));refine mv rfl rfl ?_;refine b_op rfl (o_store (cs:=[hI x11.1,hI x11.2.1,hI x11.2.2]) (zs:=[hI x11.1,hI x11.2.1,hI x11.2.2]) rfl rfl rfl ty55 rfl rfl rfl rfl rfl ?_);refine bf hK (P3 [E2,(4,hI a7),(5,.ptr 35005 v13 0),E3,E4,(33,hI a7)] [(35005,v13,.arr 3 55 [hI x11.1,hI x11.2.1,hI x11.2.2])]) ?_;refine AW.seq ?_;refine AW.seqJ h (S:=Bool) (V:=Unit) (fun a v=>(P3 [E2,(4,hI a7),(5,.ptr 35005 v13 0),E3,E4,(33,hI a7),(62,.bool a)] [(35005,v13,.arr 3 55 [hI x11.1,hI x11.2.1,hI x11.2.2])])) (fun a14 w15 h=>?_) (fun k16 h=>?_)
    ·refine AW.cond rfl (fun hc=>?_) (fun hc=>?_)
     ·have h:=ifT hc h
      refine AW.rgs rfl fun K hK=>mv rfl rfl ?_;refine bf hK ⟨[(2,hI 2)],[]⟩ ?_;have h:=hr10 _ h;obtain rfl:=oi h;exact AW.ret (ret_pure (.inr rfl) (resT rfl rfl) rfl trivial)
     have h:=ifF (bF' hc) h;refine AW.skip ?_;refine AW.seqJ h (S:=Bool) (V:=Unit) (fun a v=>(P3 [E2,E3,E4,(33,hI a7),(76,.bool a)] [])) (fun a17 w18 h=>?_) (fun k19 h=>?_)
     ·refine AW.cond rfl (fun hc=>?_) (fun hc=>?_)
      ·have h:=ifT hc h
       refine AW.rgs rfl fun K hK=>mv rfl rfl ?_;refine bf hK ⟨[(2,hI 10)],[]⟩ ?_;have h:=hr10 _ h;obtain rfl:=oi h;exact AW.ret (ret_pure (.inr rfl) (resT rfl rfl) rfl trivial)
      have h:=ifF (bF' hc) h;refine AW.skip ?_;refine AW.rg rfl fun K hK=>bv rfl (v_bin rfl rfl b_add) (mv rfl rfl ?_);refine b_nil (hK _ ?_);exact to_L ⟨IntKind.wrap .i64 (a7+1),(),h,rfl⟩
     refine AW.dg 14 follows rfl rfl fun K hK=>?_;refine sm rfl rfl ?_;refine sv rfl (v_bin rfl rfl b_gtr) ?_;refine sm rfl rfl ?_;by_cases hg24:0<a7
     ·have h:=ifT hg24 h
      refine s_T rfl rfl rfl rfl rfl (decide_eq_true hg24) (ops_val rfl (mv_val rfl rfl).2 ?_);refine s_T rfl rfl rfl rfl rfl rfl (ops_val rfl (v_fieldAddrF fo24_2 rfl) ?_);refine s_T rfl rfl rfl rfl rfl rfl (ops_val rfl (v_loadF ty22 rfl (l_lit rfl rfl)) ?_);refine s_T rfl rfl rfl rfl rfl rfl (ops_val rfl (mv_val rfl rfl).2 ?_);refine s_T rfl rfl rfl rfl rfl rfl (ops_val rfl (v_bin rfl rfl b_sub) ?_);obtain ⟨x20,h21,h⟩:=bS h;refine s_T rfl rfl rfl rfl rfl rfl (ops_val rfl (v_idxF ty22 es22 rfl rfl (idx_lt h21)) ?_);refine s_T rfl rfl rfl rfl rfl rfl (ops_val rfl (v_loadF ty55 rfl (l_agg eFromLabelTo h21 rfl rfl)) ?_);refine s_T rfl rfl rfl rfl rfl rfl (ops_val rfl (v_loadP ty55 rfl rfl (l_litA rfl (lb rfl) rfl)) ?_);obtain ⟨x22,h23,h⟩:=bS h;refine s_T rfl rfl rfl rfl rfl rfl (ops_call rfl rfl rfl rfl (ACallD.pure0 (w_graph_by_api_Edge_1 h23)) ?_);refine s_T rfl rfl rfl rfl rfl rfl (ops_val rfl (v_bin rfl rfl b_geq) ?_);refine sv rfl (v_pickT rfl rfl rfl) ?_;refine s_nil ?_;refine b_nil (hK _ ?_);exact to_L ⟨decide (0≤x22),(),h,rfl⟩
     have h:=ifF hg24 h;refine s_F rfl rfl rfl rfl rfl (decide_eq_false hg24) ?_
     iterate 9 refine s_F rfl rfl rfl rfl rfl rfl ?_
     refine sv rfl (v_pickF rfl rfl rfl) ?_;refine s_nil ?_;refine b_nil (hK _ ?_);exact to_L ⟨false,(),h,rfl⟩
    refine AW.rg rfl fun K hK=>bv rfl (v_fieldAddrP fo55_0 rfl rfl) (bv rfl (v_loadP ty3 rfl rfl (l_lit rfl rfl)) (bv rfl (v_fieldAddrP fo55_1 rfl rfl) (bv rfl (v_loadP ty3 rfl rfl (l_lit rfl rfl)) (bv rfl (v_fieldAddrP fo55_2 rfl rfl) (bv rfl (v_loadP ty3 rfl rfl (l_lit rfl rfl)) ?_)))));refine bv rfl (v_min3 rfl rfl rfl rfl) (bv rfl (v_bin rfl rfl b_lss) (mv rfl rfl ?_));by_cases hg26:(min (min x11.1 x11.2.1) x11.2.2)<0
    ·have h:=ifT hg26 h
     refine b_F rfl rfl rfl rfl rfl (decide_eq_true hg26) ?_
     iterate 7 refine b_F rfl rfl rfl rfl rfl rfl ?_
     refine bv rfl (v_pickT rfl rfl rfl) (mv rfl rfl ?_)
     iterate 5 refine b_F rfl rfl rfl rfl rfl rfl ?_
     refine bv rfl (v_pickT rfl rfl rfl) ?_;refine b_nil (hK _ ?_);exact to_L ⟨true,(),h,rfl⟩
    have h:=ifF hg26 h;refine b_T rfl rfl rfl rfl (decide_eq_false hg26) (o_val rfl (v_fieldAddrP fo55_0 rfl rfl) ?_);refine b_T rfl rfl rfl rfl rfl (o_val rfl (v_loadP ty3 rfl rfl (l_lit rfl rfl)) ?_);refine b_T rfl rfl rfl rfl rfl (o_val rfl (v_fieldAddrP fo55_2 rfl rfl) ?_);refine b_T rfl rfl rfl rfl rfl (o_val rfl (v_loadP ty3 rfl rfl (l_lit rfl rfl)) ?_);refine b_T rfl rfl rfl rfl rfl (o_val rfl (v_max rfl rfl rfl) ?_);refine b_T rfl rfl rfl rfl rfl (o_val rfl (v_fieldAddrF fo24_1 rfl) ?_);refine b_T rfl rfl rfl rfl rfl (o_val rfl (v_loadF ty3 rfl (l_lit rfl rfl)) ?_);refine b_T rfl rfl rfl rfl rfl (o_val rfl (v_bin rfl rfl b_geq) ?_);refine bv rfl (v_pickF rfl rfl rfl) (mv rfl rfl ?_);by_cases hg25:p0.2.1≤(max x11.1 x11.2.2)
    ·have h:=ifT hg25 h
     refine b_F rfl rfl rfl rfl rfl (decide_eq_true hg25) ?_
     iterate 4 refine b_F rfl rfl rfl rfl rfl rfl ?_
     refine bv rfl (v_pickT rfl rfl rfl) ?_;refine b_nil (hK _ ?_);exact to_L ⟨true,(),h,rfl⟩
    have h:=ifF hg25 h;refine b_T rfl rfl rfl rfl (decide_eq_false hg25) (o_val rfl (v_fieldAddrP fo55_1 rfl rfl) ?_);refine b_T rfl rfl rfl rfl rfl (o_val rfl (v_loadP ty3 rfl rfl (l_lit rfl rfl)) ?_);refine b_T rfl rfl rfl rfl rfl (o_val rfl (v_fieldAddrF fo24_0 rfl) ?_);refine b_T rfl rfl rfl rfl rfl (o_val rfl (v_loadF ty3 rfl (l_lit rfl rfl)) ?_);refine b_T rfl rfl rfl rfl rfl (o_val rfl (v_bin rfl rfl b_geq) ?_);refine bv rfl (v_pickF rfl rfl rfl) ?_;refine b_nil (hK _ ?_);exact to_L ⟨decide (p0.1≤x11.2.1),(),h,rfl⟩
   obtain ⟨hc,h⟩:=cF hc h;refine AW.exit ?_;exact to_L ⟨(),(),h,rfl⟩
  refine AW.rg rfl fun K hK=>bv rfl (v_fieldAddrF fo24_1 rfl) (bv rfl (v_loadF ty3 rfl (l_lit rfl rfl)) (bv rfl (v_bin rfl rfl b_gtr) (mv rfl rfl ?_)));by_cases hg29:64<p0.2.1
  ·have h:=ifT hg29 h
   refine b_F rfl rfl rfl rfl rfl (decide_eq_true hg29) ?_
   iterate 3 refine b_F rfl rfl rfl rfl rfl rfl ?_
   refine bv rfl (v_pickT rfl rfl rfl) (mv rfl rfl ?_);refine b_nil (hK _ ?_);exact to_L ⟨true,(),h,rfl⟩
  have h:=ifF hg29 h;refine b_T rfl rfl rfl rfl (decide_eq_false hg29) (o_val rfl (v_fieldAddrF fo24_2 rfl) ?_);refine b_T rfl rfl rfl rfl rfl (o_val rfl (v_loadF ty22 rfl (l_lit rfl rfl)) ?_);refine b_T rfl rfl rfl rfl rfl (o_val rfl (v_lenF rfl rfl ty22 rfl) ?_);refine b_T rfl rfl rfl rfl rfl (o_val rfl (v_bin rfl rfl b_gtr) ?_);refine bv rfl (v_pickF rfl rfl rfl) (mv rfl rfl ?_);refine b_nil (hK _ ?_);exact to_L ⟨decide (1024<((p0.2.2).length:Int)),(),h,rfl⟩
 refine AW.rg rfl fun K hK=>bv rfl (v_fieldAddrF fo24_0 rfl) (bv rfl (v_loadF ty3 rfl (l_lit rfl rfl)) (bv rfl (v_bin rfl rfl b_lss) (mv rfl rfl ?_)));by_cases hg30:p0.1<1
 ·have h:=ifT hg30 h
  refine b_F rfl rfl rfl rfl rfl (decide_eq_true hg30) ?_
  iterate 2 refine b_F rfl rfl rfl rfl rfl rfl ?_
  refine bv rfl (v_pickT rfl rfl rfl) (mv rfl rfl ?_);refine b_nil (hK _ ?_);exact to_L ⟨true,(),h,rfl⟩
 have h:=ifF hg30 h;refine b_T rfl rfl rfl rfl (decide_eq_false hg30) (o_val rfl (v_fieldAddrF fo24_0 rfl) ?_);refine b_T rfl rfl rfl rfl rfl (o_val rfl (v_loadF ty3 rfl (l_lit rfl rfl)) ?_);refine b_T rfl rfl rfl rfl rfl (o_val rfl (v_bin rfl rfl b_gtr) ?_);refine bv rfl (v_pickF rfl rfl rfl) (mv rfl rfl ?_);refine b_nil (hK _ ?_);exact to_L ⟨decide (256<p0.1),(),h,rfl⟩
theorem w_graph_leaving (p0:TLabelsStatesEdges) (p1:Int):Pure Tryz.prog 45 [gA p0,hI p1] (· = HV.fn (.func 70) [] [gF p0,.fptr [hI p1] 0]):=by
 refine Pure.of_body Tryz.func45 rfl rfl (lb rfl) fun hf=>?_;unfold Tryz.f45;dsimp only [enumS,Nat.reduceAdd];refine AW.rgs rfl fun K hK=>b_op rfl (o_box rfl rfl rfl ?_);refine b_op rfl (o_box rfl rfl rfl ?_);refine mv rfl rfl ?_;refine bf hK ⟨[(2,gF p0),(3,.fptr [hI p1] 0)],[]⟩ ?_;refine AW.rgs rfl fun K hK=>bv rfl (v_func rfl rfl) (mv rfl rfl ?_);refine bf hK ⟨[(4,.fn (.func 70) [] [gF p0,.fptr [hI p1] 0])],[]⟩ ?_;refine AW.ret ?_;exact ret_pure (.inr rfl) (resT rfl rfl) rfl ⟨trivial,⟨⟨trivial,trivial,(clean_slE fun _ _=>⟨trivial,trivial,trivial,trivial⟩),trivial⟩,⟨trivial,trivial⟩,trivial⟩⟩
theorem w_graph_checkSet {p0:TLabelsStatesEdges} {p1:List (Int)} {r:Int} (h:m_graph_checkSet p0 p1=some r):Pure Tryz.prog 102 [gA p0,slE eInt p1] (· = hI r):=by
 unfold m_graph_checkSet at h;refine Pure.of_body Tryz.func102 rfl rfl (lb rfl) fun hf=>?_;unfold Tryz.f102;dsimp only [enumS,Nat.reduceAdd];refine AW.rgs rfl fun K hK=>b_op rfl (o_box rfl rfl rfl ?_);refine mv rfl rfl ?_;let P4:ASf:=fun t H=>⟨(1,slE eInt p1)::(2,gF p0)::t,H⟩;refine bf hK (P4 [] []) ?_;refine AW.seq ?_;refine AW.rgs rfl fun K hK=>mv rfl rfl (bv rfl (v_lenF rfl rfl ty25 rfl) (mv rfl rfl ?_));let E5:Nat × HV:=(8,hI ((p1).length:Int));refine bf hK (P4 [(7,slE eInt p1),E5,(9,hI 0)] []) ?_;refine AW.lpR h (by first | exact up_then | exact up_to) (S:=Int) (V:=Unit) (fun a v=>(P4 [(7,slE eInt p1),E5,(9,hI a)] [])) ?_ (X:=Unit) (W:=Unit) (fun a v=>⟨[],[]⟩) (fun a17 w18 h=>?_) (fun a1 w2 st3 h hr4=> ?_)
 ·exact to_L ⟨(),rfl⟩
 ·refine AW.rgs rfl fun K hK=>mv rfl rfl ?_
  refine bf hK ⟨[(4,hI 0)],[]⟩ ?_;obtain rfl:=oi h;exact AW.ret (ret_pure (.inr rfl) (resT rfl rfl) rfl trivial)
 refine AW.rgs rfl fun K hK=>bv rfl (v_bin rfl rfl b_lss) ?_;refine bf hK (P4 [(7,slE eInt p1),E5,(9,hI a1),(10,.bool (decide (a1<((p1).length:Int))))] []) ?_;refine AW.cseq rfl (fun hc=>?_) (fun hc=>?_)
 ·obtain ⟨hc,h⟩:=cT hc h
  refine AW.skip ?_;refine AW.seq (AW.block ?_);refine AW.rgs rfl fun K hK=>mv rfl rfl ?_;obtain ⟨x5,h6,h⟩:=bS h;refine bv rfl (v_idxF ty25 es25 rfl rfl (idx_lt h6)) (bv rfl (v_loadF ty3 rfl (l_cell eInt h6 (o:=0) rfl rfl)) (mv rfl rfl (mv rfl rfl ?_)));refine bf hK (P4 [(5,hI a1),(6,hI x5),(7,slE eInt p1),E5,(9,hI a1)] []) ?_;refine AW.seq ?_;refine AW.seqJ h (S:=Bool) (V:=Unit) (fun a v=>(P4 [(5,hI a1),(6,hI x5),(7,slE eInt p1),E5,(9,hI a1),(21,.bool a)] [])) (fun a7 w8 h=>?_) (fun k9 h=>?_)
  ·refine AW.cond rfl (fun hc=>?_) (fun hc=>?_)
   ·have h:=ifT hc h
    refine AW.rgs rfl fun K hK=>mv rfl rfl ?_;refine bf hK ⟨[(4,hI 25)],[]⟩ ?_;have h:=hr4 _ h;obtain rfl:=oi h;exact AW.ret (ret_pure (.inr rfl) (resT rfl rfl) rfl trivial)
   have h:=ifF (bF' hc) h;refine AW.skip ?_;refine AW.seqJ h (S:=Bool) (V:=Unit) (fun a v=>(P4 [(7,slE eInt p1),E5,(9,hI a1),(32,.bool a)] [])) (fun a10 w11 h=>?_) (fun k12 h=>?_)
   ·refine AW.cond rfl (fun hc=>?_) (fun hc=>?_)
    ·have h:=ifT hc h
     refine AW.rgs rfl fun K hK=>mv rfl rfl ?_;refine bf hK ⟨[(4,hI 10)],[]⟩ ?_;have h:=hr4 _ h;obtain rfl:=oi h;exact AW.ret (ret_pure (.inr rfl) (resT rfl rfl) rfl trivial)
    have h:=ifF (bF' hc) h;refine AW.skip ?_;refine AW.rg rfl fun K hK=>bv rfl (v_bin rfl rfl b_add) (mv rfl rfl ?_);refine b_nil (hK _ ?_);exact to_L ⟨IntKind.wrap .i64 (a1+1),(),h,rfl⟩
   refine AW.rg rfl fun K hK=>mv rfl rfl (bv rfl (v_bin rfl rfl b_gtr) (mv rfl rfl ?_));by_cases hg15:0<a1
   ·have h:=ifT hg15 h
    refine b_T rfl rfl rfl rfl (decide_eq_true hg15) (o_val rfl (mv_val rfl rfl).2 ?_)
    iterate 2 refine b_T rfl rfl rfl rfl rfl (o_val rfl (mv_val rfl rfl).2 ?_)
    refine b_T rfl rfl rfl rfl rfl (o_val rfl (v_bin rfl rfl b_sub) ?_);obtain ⟨x13,h14,h⟩:=bS h;refine b_T rfl rfl rfl rfl rfl (o_val rfl (v_idxF ty25 es25 rfl rfl (idx_lt h14)) ?_);refine b_T rfl rfl rfl rfl rfl (o_val rfl (v_loadF ty3 rfl (l_cell eInt h14 (o:=0) rfl rfl)) ?_);refine b_T rfl rfl rfl rfl rfl (o_val rfl (v_bin rfl rfl b_leq) ?_);refine bv rfl (v_pickT rfl rfl rfl) ?_;refine b_nil (hK _ ?_);exact to_L ⟨decide (x5≤x13),(),h,rfl⟩
   have h:=ifF hg15 h;refine b_F rfl rfl rfl rfl rfl (decide_eq_false hg15) ?_
   iterate 6 refine b_F rfl rfl rfl rfl rfl rfl ?_
   refine bv rfl (v_pickF rfl rfl rfl) ?_;refine b_nil (hK _ ?_);exact to_L ⟨false,(),h,rfl⟩
  refine AW.rg rfl fun K hK=>mv rfl rfl (bv rfl (v_bin rfl rfl b_lss) (mv rfl rfl ?_));by_cases hg16:x5<0
  ·have h:=ifT hg16 h
   refine b_F rfl rfl rfl rfl rfl (decide_eq_true hg16) ?_
   iterate 3 refine b_F rfl rfl rfl rfl rfl rfl ?_
   refine bv rfl (v_pickT rfl rfl rfl) ?_;refine b_nil (hK _ ?_);exact to_L ⟨true,(),h,rfl⟩
  have h:=ifF hg16 h;refine b_T rfl rfl rfl rfl (decide_eq_false hg16) (o_val rfl (mv_val rfl rfl).2 ?_);refine b_T rfl rfl rfl rfl rfl (o_val rfl (v_fieldAddrF fo24_1 rfl) ?_);refine b_T rfl rfl rfl rfl rfl (o_val rfl (v_loadF ty3 rfl (l_lit rfl rfl)) ?_);refine b_T rfl rfl rfl rfl rfl (o_val rfl (v_bin rfl rfl b_geq) ?_);refine bv rfl (v_pickF rfl rfl rfl) ?_;refine b_nil (hK _ ?_);exact to_L ⟨decide (p0.2.1≤x5),(),h,rfl⟩
 obtain ⟨hc,h⟩:=cF hc h;refine AW.exit ?_;exact to_L ⟨(),(),h,rfl⟩
theorem w_graph_Step {p0:TLabelsStatesEdges} {p1:List (Int)} {p2:Int} {r:(List (Int)) × Int} (h:m_graph_Step p0 p1 p2=some r):Pure Tryz.prog 80 [gA p0,slE eInt p1,hI p2] (· = HV.tup [slE eInt r.1,hI r.2]):=by
 unfold m_graph_Step at h;refine Pure.of_body Tryz.func80 rfl rfl (lb rfl) fun hf=>?_;unfold Tryz.f80;dsimp only [enumS,Nat.reduceAdd];refine AW.rgs rfl fun K hK=>b_op rfl (o_box rfl rfl rfl ?_);refine b_op rfl (o_box rfl rfl rfl ?_);refine mv rfl rfl (mv rfl rfl ?_);let P1:ASf:=fun t H=>⟨(1,slE eInt p1)::(3,gF p0)::(5,.fptr [hI p2] 0)::t,H⟩;refine bf hK (P1 [] []) ?_;refine AW.seq ?_;refine AW.rgs rfl fun K hK=>bv rfl (v_loadF ty24 rfl (l_litA rfl (lb rfl) rfl)) ?_;obtain ⟨x1,h2,h⟩:=bS h;refine b_op rfl (o_call rfl rfl rfl rfl (ACallD.pure0 (w_graph_Check h2)) ?_);refine bv rfl (v_bin rfl rfl b_neq) ?_;refine bf hK (P1 [(16,.bool (decide (x1≠0)))] []) ?_;refine AW.cond rfl (fun hc=>?_) (fun hc=>?_)
 ·obtain ⟨hc,h⟩:=cT hc h
  refine AW.rgs rfl fun K hK=>mv rfl rfl (mv rfl rfl ?_);refine bf hK ⟨[(6,.v (.slice none 0 0)),(7,hI 1)],[]⟩ ?_;refine AW.to (to_weak ⟨[(6,slE eInt ([]:List Int)),(7,hI 1)],[]⟩ ⟨⟨_,rfl,.nil _⟩,⟨_,rfl,.refl _⟩,trivial⟩ trivial ?_);obtain rfl:=oi h;exact AW.ret (ret_pure (.inr rfl) (resT rfl (resT rfl rfl)) rfl ⟨(clean_slE fun _ _=>⟨trivial,trivial⟩),trivial,trivial⟩)
 obtain ⟨hc,h⟩:=cF hc h;refine AW.skip ?_;refine AW.seq ?_;refine AW.rgs rfl fun K hK=>bv rfl (v_loadF ty24 rfl (l_litA rfl (lb rfl) rfl)) (mv rfl rfl ?_);obtain ⟨x3,h4,h⟩:=bS h;refine b_op rfl (o_call rfl rfl rfl rfl (ACallD.pure0 (w_graph_checkSet h4)) ?_);refine mv rfl rfl ?_;refine bf hK (P1 [(8,hI x3)] []) ?_;refine AW.rgs rfl fun K hK=>mv rfl rfl (bv rfl (v_bin rfl rfl b_neq) ?_);refine bf hK (P1 [(8,hI x3),(21,.bool (decide (x3≠0)))] []) ?_;refine AW.cond rfl (fun hc=>?_) (fun hc=>?_)
 ·obtain ⟨hc,h⟩:=cT hc h
  refine AW.rgs rfl fun K hK=>mv rfl rfl (mv rfl rfl (mv rfl rfl ?_));refine bf hK ⟨[(6,.v (.slice none 0 0)),(7,hI x3)],[]⟩ ?_;refine AW.to (to_weak ⟨[(6,slE eInt ([]:List Int)),(7,hI x3)],[]⟩ ⟨⟨_,rfl,.nil _⟩,⟨_,rfl,.refl _⟩,trivial⟩ trivial ?_);obtain rfl:=oi h;exact AW.ret (ret_pure (.inr rfl) (resT rfl (resT rfl rfl)) rfl ⟨(clean_slE fun _ _=>⟨trivial,trivial⟩),trivial,trivial⟩)
 obtain ⟨hc,h⟩:=cF hc h;refine AW.skip ?_;refine AW.seq ?_;refine AW.seqJ h (S:=Bool) (V:=Unit) (fun a v=>(P1 [(30,.bool a)] [])) (fun a5 w6 h=>?_) (fun k7 h=>?_)
 ·refine AW.cond rfl (fun hc=>?_) (fun hc=>?_)
  ·have h:=ifT hc h
   refine AW.rgs rfl fun K hK=>mv rfl rfl (mv rfl rfl ?_);refine bf hK ⟨[(6,.v (.slice none 0 0)),(7,hI 2)],[]⟩ ?_;refine AW.to (to_weak ⟨[(6,slE eInt ([]:List Int)),(7,hI 2)],[]⟩ ⟨⟨_,rfl,.nil _⟩,⟨_,rfl,.refl _⟩,trivial⟩ trivial ?_);obtain rfl:=oi h;exact AW.ret (ret_pure (.inr rfl) (resT rfl (resT rfl rfl)) rfl ⟨(clean_slE fun _ _=>⟨trivial,trivial⟩),trivial,trivial⟩)
  have h:=ifF (bF' hc) h;refine AW.skip ?_;refine AW.rgs rfl fun K hK=>b_op rfl (o_alloc (fid:=80) (zs:=[.v (.slice none 0 0)]) 80009 rfl rfl ty25 rfl (fun v8=>?_));refine bf hK (P1 [(9,.ptr 80009 v8 0)] [(80009,v8,.arr 1 25 [.v (.slice none 0 0)])]) ?_;refine AW.seq ?_;refine AW.rgs rfl fun K hK=>mv rfl rfl (bv rfl (v_lenF rfl rfl ty25 rfl) (mv rfl rfl ?_));let E1:Nat × HV:=(32,hI ((p1).length:Int));let P2:ASf:=fun t H=>⟨(3,gF p0)::(5,.fptr [hI p2] 0)::(9,.ptr 80009 v8 0)::(31,slE eInt p1)::E1::t,H⟩;refine bf hK (P2 [(33,hI 0)] [(80009,v8,.arr 1 25 [.v (.slice none 0 0)])]) ?_;refine AW.lpX h (by first | exact up_then | exact up_to) (S:=Int × (List Int)) (V:=Nat) (fun a v=>(P2 [(33,hI a.1)] [(80009,v8,.arr 1 25 [.ar 80050 v eInt.k 0 ((a.2).length)]),(80050,v,.arr eInt.k 3 (eInt.E a.2))])) ?_ (X:=(List Int)) (W:=Nat) (fun a v=>⟨[(9,.ptr 80009 v8 0)],[(80009,v8,.arr 1 25 [.ar 80050 v eInt.k 0 ((a).length)]),(80050,v,.arr eInt.k 3 (eInt.E a))]⟩) (fun a31 w32 h=>?_) (fun a9 w10 st11 h=>?_)
  ·refine to_bind (to_ownC 80050 80009 v8 1 0 eInt.k 3 25 rfl rfl (by decide) fun v30=>?_)
   exact to_le (s':=(P2 [(33,hI 0)] [(80009,v8,.arr 1 25 [.ar 80050 v30 eInt.k 0 ((([]:List Int)).length)]),(80050,v30,.arr eInt.k 3 (eInt.E ([]:List Int)))])) (AS.le_of ⟨rfl,rfl,rfl,rfl,rfl,rfl,trivial⟩ ⟨hle rfl (by first | rfl | simp only [List.length_set,sortI_len,sortS_len,List.length_reverse]),rfl,trivial⟩) ⟨v30,rfl⟩
  ·refine AW.rgs rfl fun K hK=>bv rfl (v_loadP ty25 rfl rfl (l_lit rfl rfl)) ?_
   obtain ⟨h33,h⟩:=ifN h;refine b_op rfl (o_sortI c_sortI (l:=a31) rfl rfl rfl rfl h33 ?_);refine b_fin hK (s':=⟨[(9,.ptr 80009 v8 0)],[(80009,v8,.arr 1 25 [.ar 80050 w32 eInt.k 0 ((sortI a31).length)]),(80050,w32,.arr eInt.k 3 (eInt.E (sortI a31)))]⟩) (AS.le_of ⟨rfl,trivial⟩ ⟨hle rfl (by first | rfl | simp only [List.length_set,sortI_len,sortS_len,List.length_reverse]),rfl,trivial⟩) ?_;refine AW.rgs rfl fun K hK=>bv rfl (v_loadP ty25 rfl rfl (l_lit rfl rfl)) ?_;refine b_op rfl (o_callK (q:=slE eInt (compact_ (sortI a31))) [(80009,v8,.arr 1 25 [.ar 80050 w32 eInt.k 0 ((sortI a31).length)])] rfl rfl rfl rfl (fun K hK=>c_compactI (H':=[(80009,v8,.arr 1 25 [.ar 80050 w32 eInt.k 0 ((sortI a31).length)])]) (l:=sortI a31) rfl rfl (leH_get ⟨rfl,trivial⟩) rfl hK) ?_);refine mv rfl rfl (mv rfl rfl ?_);refine bf hK ⟨[(6,slE eInt (compact_ (sortI a31))),(7,hI 0)],[]⟩ ?_;obtain rfl:=oi h;exact AW.ret (ret_pure (.inr rfl) (resT rfl (resT rfl rfl)) rfl ⟨(clean_slE fun _ _=>⟨trivial,trivial⟩),trivial,trivial⟩)
  refine AW.rgs rfl fun K hK=>bv rfl (v_bin rfl rfl b_lss) ?_;let O2:Nat × Nat × AObj:=(80009,v8,.arr 1 25 [.ar 80050 w10 eInt.k 0 ((a9.2).length)]);let O3:Nat × Nat × AObj:=(80050,w10,.arr eInt.k 3 (eInt.E a9.2));refine bf hK (P2 [(33,hI a9.1),(34,.bool (decide (a9.1<((p1).length:Int))))] [O2,O3]) ?_;refine AW.cseq rfl (fun hc=>?_) (fun hc=>?_)
  ·obtain ⟨hc,h⟩:=cT hc h
   refine AW.skip ?_;refine AW.seq (AW.block ?_);refine AW.rgs rfl fun K hK=>?_;obtain ⟨x13,h14,h⟩:=bS h;refine bv rfl (v_idxF ty25 es25 rfl rfl (idx_lt h14)) (bv rfl (v_loadF ty3 rfl (l_cell eInt h14 (o:=0) rfl rfl)) (mv rfl rfl ?_));refine bf hK ⟨[(3,gF p0),(5,.fptr [hI p2] 0),(9,.ptr 80009 v8 0),(11,hI x13),(31,slE eInt p1),E1,(33,hI a9.1)],[O2,O3]⟩ ?_;refine AW.rgs rfl fun K hK=>bv rfl (v_loadF ty24 rfl (l_litA rfl (lb rfl) rfl)) (mv rfl rfl ?_);refine b_op rfl (o_call rfl rfl rfl rfl (ACallD.pure0 (w_graph_leaving p0 x13)) ?_);refine bf hK (P2 [(33,hI a9.1),(39,.fn (.func 70) [] [gF p0,.fptr [hI x13] 0])] [O2,O3]) ?_;refine AW.block ?_;refine AW.to (to_le (s':=(P2 [(33,hI a9.1),(39,.fn (.func 70) [] [gF p0,.fptr [hI x13] 0])] [O2,O3])) (le_q rfl rfl) ?_);obtain ⟨L15,h16,h⟩:=bS h;refine AW.rangeY (c:=.ret) 80900 (fun x=>[hI x.1,.agg [hI x.2.1,hI x.2.2.1,hI x.2.2.2]]) h (by first | exact up_then | exact up_to) rfl (iy_graph_leaving h16) (S:=(List Int)) (V:=Nat) (fun a v=>[(80009,v8,.arr 1 25 [.ar 80050 v eInt.k 0 ((a).length)]),(80050,v,.arr eInt.k 3 (eInt.E a))]) w10 (X:=Unit) (W:=Unit) (fun _ _=>[]) (fun _ _=>rfl) (fun _ _=>rfl) rfl (fun _=>rfl) (fun a26 w27 h=>?_) (fun a28 w29 h=>?_) (fun Lo l22 v20 a17 x19 w18 st21 h=>?_)
   ·refine AW.rg rfl fun K hK=>bv rfl (v_bin rfl rfl b_add) (mv rfl rfl ?_)
    refine b_nil (hK _ ?_);exact to_L ⟨(IntKind.wrap .i64 (a9.1+1),a26),w27,h,rfl⟩
   ·cases h
   refine AW.rg rfl fun K hK=>b_op rfl (o_alloc (fid:=80) (zs:=[hI 0,hI 0,hI 0]) 80013 rfl rfl ty55 rfl (fun v23=>?_));refine b_op rfl (o_store (cs:=[hI x19.2.1,hI x19.2.2.1,hI x19.2.2.2]) (zs:=[hI x19.2.1,hI x19.2.2.1,hI x19.2.2.2]) rfl rfl rfl ty55 rfl rfl rfl rfl rfl ?_);refine b_nil (hK _ ?_);refine ⟨rfl,rfl,?_⟩;refine AW.block ?_;refine AW.rgs rfl fun K hK=>bv rfl (v_fieldAddrP fo55_1 rfl rfl) (bv rfl (v_loadP ty3 rfl rfl (l_lit rfl rfl)) (bv rfl (v_loadF ty3 rfl (l_lit rfl rfl)) (bv rfl (v_bin rfl rfl b_eql) ?_)));refine bf hK ⟨[(3,gF p0),(5,.fptr [hI p2] 0),(9,.ptr 80009 v8 0),(13,.ptr 80013 v23 0),(31,slE eInt p1),E1,(33,hI a9.1),(41,.agg [hI x19.2.1,hI x19.2.2.1,hI x19.2.2.2]),(45,.bool (decide (x19.2.2.1=p2)))],[(80900,v20,Lo .busy none),(80009,v8,.arr 1 25 [.ar 80050 w18 eInt.k 0 ((a17).length)]),(80050,w18,.arr eInt.k 3 (eInt.E a17)),(80013,v23,.arr 3 55 [hI x19.2.1,hI x19.2.2.1,hI x19.2.2.2])]⟩ ?_;refine AW.cond rfl (fun hc=>?_) (fun hc=>?_)
   ·obtain ⟨hc,h⟩:=cT hc h
    refine AW.rg rfl fun K hK=>bv rfl (v_loadP ty25 rfl rfl (l_lit rfl rfl)) (bv rfl (v_fieldAddrP fo55_2 rfl rfl) (bv rfl (v_loadP ty3 rfl rfl (l_lit rfl rfl)) ?_));refine b_op rfl (o_bsl rfl rfl (as_of (cs:=[hI x19.2.2.2]) ty25 ty3 rfl rfl rfl rfl rfl) ?_);obtain ⟨h25,h⟩:=ifN h;refine b_op rfl (o_appE eInt (l:=a17) (m:=[x19.2.2.2]) rfl rfl ty25 ty25 ty3 rfl rfl rfl rfl rfl h25 (fun v24=>?_));refine b_op rfl (o_store (cs:=[.ar 80050 v24 eInt.k 0 ((a17++[x19.2.2.2]).length)]) (zs:=[.ar 80050 v24 eInt.k 0 ((a17++[x19.2.2.2]).length)]) rfl rfl rfl ty25 rfl rfl rfl rfl rfl ?_);refine b_nil (hK _ ?_);exact ⟨a17++[x19.2.2.2],v24,h,(AS.le_of trivial ⟨rfl,rfl,rfl,trivial⟩)⟩
   obtain ⟨hc,h⟩:=cF hc h;refine AW.skip ?_;exact ⟨a17,w18,h,(AS.le_of trivial ⟨rfl,rfl,rfl,trivial⟩)⟩
  obtain ⟨hc,h⟩:=cF hc h;refine AW.exit ?_;exact to_L ⟨a9.2,w10,h,rfl⟩
 refine AW.rg rfl fun K hK=>bv rfl (v_loadF ty3 rfl (l_lit rfl rfl)) (bv rfl (v_bin rfl rfl b_lss) (mv rfl rfl ?_));by_cases hg34:p2<0
 ·have h:=ifT hg34 h
  refine b_F rfl rfl rfl rfl rfl (decide_eq_true hg34) ?_
  iterate 3 refine b_F rfl rfl rfl rfl rfl rfl ?_
  refine bv rfl (v_pickT rfl rfl rfl) ?_;refine b_nil (hK _ ?_);exact to_L ⟨true,(),h,rfl⟩
 have h:=ifF hg34 h;refine b_T rfl rfl rfl rfl (decide_eq_false hg34) (o_val rfl (v_loadF ty3 rfl (l_lit rfl rfl)) ?_);refine b_T rfl rfl rfl rfl rfl (o_val rfl (v_fieldAddrF fo24_0 rfl) ?_);refine b_T rfl rfl rfl rfl rfl (o_val rfl (v_loadF ty3 rfl (l_lit rfl rfl)) ?_);refine b_T rfl rfl rfl rfl rfl (o_val rfl (v_bin rfl rfl b_geq) ?_);refine bv rfl (v_pickF rfl rfl rfl) ?_;refine b_nil (hK _ ?_);exact to_L ⟨decide (p0.1≤p2),(),h,rfl⟩
theorem w_language_step {p0:TLabelsStatesEdges} {p1:List (Int)} {p2:Int} {r:(List (Int))} (h:m_language_step p0 p1 p2=some r):Pure Tryz.prog 63 [gA p0,slE eInt p1,.int .u8 p2] (· = slE eInt r):=by
 unfold m_language_step at h;refine Pure.of_body Tryz.func63 rfl rfl (lb rfl) fun hf=>?_;unfold Tryz.f63;dsimp only [enumS,Nat.reduceAdd];refine AW.rgs rfl fun K hK=>b_op rfl (o_box rfl rfl rfl ?_);refine mv rfl rfl ?_;refine bf hK ⟨[(1,slE eInt p1),(2,.int .u8 p2),(3,gF p0)],[]⟩ ?_;refine AW.dgs 10 follows rfl rfl fun K hK=>?_;refine sv rfl (v_loadF ty24 rfl (l_litA rfl (lb rfl) rfl)) ?_
 iterate 2 refine sm rfl rfl ?_
 obtain ⟨x1,h2,h⟩:=bS h;refine s_op rfl rfl (ops_call rfl rfl rfl rfl (ACallD.pure0 (w_strings_IndexByte h2)) ?_);obtain ⟨x3,h4,h⟩:=bS h;refine s_op rfl rfl (ops_call rfl rfl rfl rfl (ACallD.pure0 (w_graph_Step h4)) ?_);refine sm rfl rfl ?_;refine sv rfl (v_extract rfl rfl) ?_;refine sv rfl (v_extract rfl rfl) ?_
 iterate 2 refine sm rfl rfl ?_
 refine s_nil ?_;refine bf hK ⟨[(7,slE eInt x3.1)],[]⟩ ?_;refine AW.rgs rfl fun K hK=>mv rfl rfl (mv rfl rfl ?_);refine bf hK ⟨[(6,slE eInt x3.1)],[]⟩ ?_;obtain rfl:=oi h;exact AW.ret (ret_pure (.inr rfl) (resT rfl rfl) rfl (clean_slE fun _ _=>⟨trivial,trivial⟩))
theorem w_language_states {p0:TLabelsStatesEdges} {r:(List (Int))} (h:m_language_states p0=some r):Pure Tryz.prog 41 [gA p0] (· = slE eInt r):=by
 unfold m_language_states at h;refine Pure.of_body Tryz.func41 rfl rfl (lb rfl) fun hf=>?_;unfold Tryz.f41;dsimp only [enumS,Nat.reduceAdd];refine AW.rgs rfl fun K hK=>b_op rfl (o_box rfl rfl rfl ?_);refine mv rfl rfl ?_;refine bf hK ⟨[(1,gF p0)],[]⟩ ?_;refine AW.rgs rfl fun K hK=>bv rfl (v_fieldAddrF fo24_1 rfl) (bv rfl (v_loadF ty3 rfl (l_lit rfl rfl)) ?_);obtain ⟨h2,h⟩:=ifN h;refine b_op rfl (o_makeE (fid:=41) eInt (0:Int) 41007 rfl rfl ty25 rfl rfl ty3 rfl rfl h2 (fun v1=>?_));refine mv rfl rfl ?_;let E4:Nat × HV:=(3,.ar 41007 v1 eInt.k 0 ((List.replicate (p0.2.1).toNat (0:Int)).length));let O5:Nat × Nat × AObj:=(41007,v1,.arr eInt.k 3 (eInt.E (List.replicate (p0.2.1).toNat (0:Int))));refine bf hK ⟨[E4],[O5]⟩ ?_;refine AW.seq ?_;refine AW.rgs rfl fun K hK=>mv rfl rfl (bv rfl (v_lenA rfl rfl ty25 rfl rfl) (mv rfl rfl ?_));let E6:Nat × HV:=(9,hI (((List.replicate (p0.2.1).toNat (0:Int)).length:Nat):Int));refine bf hK ⟨[E4,E6,(10,hI 0)],[O5]⟩ ?_;refine AW.lpX h (by first | exact up_then | exact up_to) (S:=Int × (List Int)) (V:=Unit) (fun a v=>⟨[(3,.ar 41007 v1 eInt.k 0 ((a.2).length)),E6,(10,hI a.1)],[(41007,v1,.arr eInt.k 3 (eInt.E a.2))]⟩) ?_ (X:=(List Int)) (W:=Unit) (fun a v=>⟨[(3,.ar 41007 v1 eInt.k 0 ((a).length))],[(41007,v1,.arr eInt.k 3 (eInt.E a))]⟩) (fun a9 w10 h=>?_) (fun a3 w4 st5 h=>?_)
 ·exact to_L ⟨(),rfl⟩
 ·refine AW.rgs rfl fun K hK=>mv rfl rfl (mv rfl rfl ?_)
  refine bf hK ⟨[(2,.ar 41007 v1 eInt.k 0 ((a9).length))],[(41007,v1,.arr eInt.k 3 (eInt.E a9))]⟩ ?_;refine AW.to (to_frz 2 [(41007,v1,.arr eInt.k 3 (eInt.E a9))] ⟨[(2,slE eInt a9)],[]⟩ ⟨⟨_,rfl,frz_slE eInt (l:=a9) rfl fun _ _=>rfl⟩,trivial⟩ trivial ⟨rfl,trivial⟩ ⟨rfl,trivial⟩ ?_);obtain rfl:=oi h;exact AW.ret (ret_pure (.inr rfl) (resT rfl rfl) rfl (clean_slE fun _ _=>⟨trivial,trivial⟩))
 refine AW.rgs rfl fun K hK=>bv rfl (v_bin rfl rfl b_lss) ?_;let P3:ASf:=fun t H=>⟨(3,.ar 41007 v1 eInt.k 0 ((a3.2).length))::t,(41007,v1,.arr eInt.k 3 (eInt.E a3.2))::H⟩;refine bf hK (P3 [E6,(10,hI a3.1),(11,.bool (decide (a3.1<(((List.replicate (p0.2.1).toNat (0:Int)).length:Nat):Int))))] []) ?_;refine AW.cseq rfl (fun hc=>?_) (fun hc=>?_)
 ·obtain ⟨hc,h⟩:=cT hc h
  refine AW.skip ?_;refine AW.seq (AW.block ?_);refine AW.rgs rfl fun K hK=>mv rfl rfl (mv rfl rfl ?_);refine bf hK (P3 [(4,hI a3.1),E6,(10,hI a3.1)] []) ?_;refine AW.rg rfl fun K hK=>mv rfl rfl (mv rfl rfl (mv rfl rfl ?_));obtain ⟨x7,h8,h⟩:=bS h;refine bv rfl (v_idxA ty25 es25 rfl rfl (idx_lt h8) rfl) ?_;refine b_op rfl (o_storeE eInt (l:=a3.2) (j:=a3.1) (v:=a3.1) rfl rfl rfl ty3 rfl rfl rfl (idx_lt h8) ?_);refine b_fin hK (s':=⟨[(3,.ar 41007 v1 eInt.k 0 (((a3.2).set (a3.1).toNat a3.1).length)),E6,(10,hI a3.1)],[(41007,v1,.arr eInt.k 3 (eInt.E ((a3.2).set (a3.1).toNat a3.1)))]⟩) (AS.le_of ⟨arl (by first | rfl | simp only [List.length_set,sortI_len,sortS_len,List.length_reverse]),rfl,rfl,trivial⟩ ⟨rfl,trivial⟩) ?_;refine AW.rg rfl fun K hK=>bv rfl (v_bin rfl rfl b_add) (mv rfl rfl ?_);refine b_nil (hK _ ?_);exact to_L ⟨(IntKind.wrap .i64 (a3.1+1),(a3.2).set (a3.1).toNat a3.1),(),h,rfl⟩
 obtain ⟨hc,h⟩:=cF hc h;refine AW.exit ?_;exact to_L ⟨a3.2,(),h,rfl⟩
theorem w_language_check {p0:TLabelsStatesEdges} {r:Int} (h:m_language_check p0=some r):Pure Tryz.prog 62 [gA p0] (· = hI r):=by
 unfold m_language_check at h;refine Pure.of_body Tryz.func62 rfl rfl (lb rfl) fun hf=>?_;unfold Tryz.f62;dsimp only [enumS,Nat.reduceAdd];refine AW.rgs rfl fun K hK=>b_op rfl (o_box rfl rfl rfl ?_);refine mv rfl rfl ?_;refine bf hK ⟨[(1,gF p0)],[]⟩ ?_;refine AW.seq (AW.block ?_);refine AW.rgs rfl fun K hK=>bv rfl (v_loadF ty24 rfl (l_litA rfl (lb rfl) rfl)) ?_;obtain ⟨x1,h2,h⟩:=bS h;refine b_op rfl (o_call rfl rfl rfl rfl (ACallD.pure0 (w_graph_Check h2)) ?_);refine bv rfl (v_bin rfl rfl b_neq) (mv rfl rfl ?_);refine bf hK ⟨[(1,gF p0),(3,.bool (decide (x1≠0)))],[]⟩ ?_;refine AW.cond rfl (fun hc=>?_) (fun hc=>?_)
 ·obtain ⟨hc,h⟩:=cT hc h
  refine AW.rgs rfl fun K hK=>mv rfl rfl ?_;refine bf hK ⟨[(2,hI 1)],[]⟩ ?_;obtain rfl:=oi h;exact AW.ret (ret_pure (.inr rfl) (resT rfl rfl) rfl trivial)
 obtain ⟨hc,h⟩:=cF hc h;refine AW.rgs rfl fun K hK=>bv rfl (v_fieldAddrF fo24_0 rfl) (bv rfl (v_loadF ty3 rfl (l_lit rfl rfl)) (bv rfl (v_bin rfl rfl b_gtr) (mv rfl rfl ?_)));refine bf hK ⟨[(7,.bool (decide (16<p0.1)))],[]⟩ ?_;refine AW.cond rfl (fun hc=>?_) (fun hc=>?_)
 ·obtain ⟨hc,h⟩:=cT hc h
  refine AW.rgs rfl fun K hK=>mv rfl rfl ?_;refine bf hK ⟨[(2,hI 12)],[]⟩ ?_;obtain rfl:=oi h;exact AW.ret (ret_pure (.inr rfl) (resT rfl rfl) rfl trivial)
 obtain ⟨hc,h⟩:=cF hc h;refine AW.skip ?_;refine AW.rgs rfl fun K hK=>mv rfl rfl ?_;refine bf hK ⟨[(2,hI 0)],[]⟩ ?_;obtain rfl:=oi h;exact AW.ret (ret_pure (.inr rfl) (resT rfl rfl) rfl trivial)
theorem w_language_lengths {p0:TLabelsStatesEdges} {p1:Int} {r:Int} (h:m_language_lengths p0 p1=some r):Pure Tryz.prog 39 [gA p0,hI p1] (· = hI r):=by
 unfold m_language_lengths at h;refine Pure.of_body Tryz.func39 rfl rfl (lb rfl) fun hf=>?_;unfold Tryz.f39;dsimp only [enumS,Nat.reduceAdd];refine AW.rgs rfl fun K hK=>b_op rfl (o_box rfl rfl rfl ?_);refine mv rfl rfl ?_;refine bf hK ⟨[(1,hI p1),(2,gF p0)],[]⟩ ?_;refine AW.seq ?_;refine AW.rgs rfl fun K hK=>bv rfl (v_loadF ty24 rfl (l_litA rfl (lb rfl) rfl)) ?_;obtain ⟨x1,h2,h⟩:=bS h;refine b_op rfl (o_call rfl rfl rfl rfl (ACallD.pure0 (w_language_check h2)) ?_);refine mv rfl rfl ?_;refine bf hK ⟨[(1,hI p1),(5,hI x1)],[]⟩ ?_;refine AW.rgs rfl fun K hK=>mv rfl rfl (bv rfl (v_bin rfl rfl b_neq) ?_);refine bf hK ⟨[(1,hI p1),(5,hI x1),(9,.bool (decide (x1≠0)))],[]⟩ ?_;refine AW.cond rfl (fun hc=>?_) (fun hc=>?_)
 ·obtain ⟨hc,h⟩:=cT hc h
  refine AW.rgs rfl fun K hK=>mv rfl rfl (mv rfl rfl ?_);refine bf hK ⟨[(4,hI x1)],[]⟩ ?_;obtain rfl:=oi h;exact AW.ret (ret_pure (.inr rfl) (resT rfl rfl) rfl trivial)
 obtain ⟨hc,h⟩:=cF hc h;refine AW.skip ?_;refine AW.seq ?_;refine AW.seqJ h (S:=Bool) (V:=Unit) (fun a v=>⟨[(16,.bool a)],[]⟩) (fun a3 w4 h=>?_) (fun k5 h=>?_)
 ·refine AW.cond rfl (fun hc=>?_) (fun hc=>?_)
  ·have h:=ifT hc h
   refine AW.rgs rfl fun K hK=>mv rfl rfl ?_;refine bf hK ⟨[(4,hI 2)],[]⟩ ?_;obtain rfl:=oi h;exact AW.ret (ret_pure (.inr rfl) (resT rfl rfl) rfl trivial)
  have h:=ifF (bF' hc) h;refine AW.skip ?_;refine AW.rgs rfl fun K hK=>mv rfl rfl ?_;refine bf hK ⟨[(4,hI 0)],[]⟩ ?_;obtain rfl:=oi h;exact AW.ret (ret_pure (.inr rfl) (resT rfl rfl) rfl trivial)
 refine AW.rg rfl fun K hK=>mv rfl rfl (bv rfl (v_bin rfl rfl b_lss) (mv rfl rfl ?_));by_cases hg6:p1<0
 ·have h:=ifT hg6 h
  refine b_F rfl rfl rfl rfl rfl (decide_eq_true hg6) ?_;refine b_F rfl rfl rfl rfl rfl rfl ?_;refine bv rfl (v_pickT rfl rfl rfl) ?_;refine b_nil (hK _ ?_);exact to_L ⟨true,(),h,rfl⟩
 have h:=ifF hg6 h;refine b_T rfl rfl rfl rfl (decide_eq_false hg6) (o_val rfl (mv_val rfl rfl).2 ?_);refine b_T rfl rfl rfl rfl rfl (o_val rfl (v_bin rfl rfl b_gtr) ?_);refine bv rfl (v_pickF rfl rfl rfl) ?_;refine b_nil (hK _ ?_);exact to_L ⟨decide (4096<p1),(),h,rfl⟩
end Go.AW

namespace Go.AW
open Go Go.Proofs
set_option linter.unusedVariables false
theorem list_steps {g:TLabelsStatesEdges} {set:List Int} (h:StepsOk g set):∃ A:List Int→Prop,A set∧(∀ a c,A a→c∈letters.take g.1.toNat→A (stpM g a c)) ∧
  ∀ a c,A a→c∈letters.take g.1.toNat→Pure Tryz.prog 63 [HV.agg [HV.int .i64 g.1,HV.int .i64 g.2.1,slE eFromLabelTo g.2.2],ints a,.int .u8 c.toNat] (· = ints (stpM g a c)):=by
 obtain ⟨A,h0,hs⟩:=h;refine ⟨A,h0,fun a c ha hc=>?_,fun a c ha hc=>?_⟩
 ·obtain ⟨b,hb,hA⟩:=hs a c ha hc
  simp only [stpM,hb,Option.getD_some];exact hA
 obtain ⟨b,hb,hA⟩:=hs a c ha hc;simp only [stpM,hb,Option.getD_some];exact w_language_step hb
theorem c_listT {g:TLabelsStatesEdges} {set:List Int} {n:Int} {x:List WS × Bool} (h:m_language_list g set n=some x) (hx:x.2=true) {K:HV→Heap→Prop}
  (hK:∀ id ver es,es.Perm (x.1.map ent)∧(x.1.map (·.1)).Nodup∧x.1.length≤1099511627776→K (.tup [.mp id ver,.bool true]) [(id,ver,.map es)]):ACall Tryz.prog 40 [HV.agg [HV.int .i64 g.1,HV.int .i64 g.2.1,slE eFromLabelTo g.2.2],slE eInt set,.int .i64 n] [] K:=by
 unfold m_language_list at h;split at h
 ·rename_i hc
  obtain ⟨h1,h2,h3,h4⟩:=hc;cases h;split at hx
  ·rename_i hok
   rw [if_pos hok] at hK;obtain ⟨A,hA0,hA,hstep⟩:=list_steps h4;obtain ⟨gl,gs,ge⟩:=g
   try dsimp only at h1
   try dsimp only at h2
   try dsimp only at hA
   try dsimp only at hstep
   try dsimp only at hok
   try dsimp only
   try dsimp only at hK
   obtain ⟨L,rfl⟩:=Int.eq_ofNat_of_zero_le h1;obtain ⟨m,rfl⟩:=Int.eq_ofNat_of_zero_le h3;simp only [Int.toNat_natCast] at hok hK hA hstep;refine (w79 (L:=L) (n:=m) (gS:=HV.int .i64 gs) (gE:=slE eFromLabelTo ge) (by omega) rfl rfl hA0 hA hstep).mono ?_
   rintro r H' (⟨hok',id,ver,es,rfl,rfl,hes⟩ | ⟨j,j1,j2,j3,rfl,rfl⟩)
   ·refine hK id ver es ⟨hes,lvl_keys (letters_nodup.sublist (List.take_sublist _ _)) m,?_⟩
    cases m with
    | zero=>simp only [lvl]; split <;> simp
    | succ m=>have:=hok' (m+1) (by omega) (Nat.le_refl _); omega
   have:=okLvl_iff.1 hok j j1 j2;omega
  cases hx
 cases h
theorem c_listF {g:TLabelsStatesEdges} {set:List Int} {n:Int} {x:List WS × Bool} (h:m_language_list g set n=some x) (hx:¬ x.2=true) {K:HV→Heap→Prop}
  (hK:K (.tup [.v (.map none),.bool false]) []):ACall Tryz.prog 40 [HV.agg [HV.int .i64 g.1,HV.int .i64 g.2.1,slE eFromLabelTo g.2.2],slE eInt set,.int .i64 n] [] K:=by
 unfold m_language_list at h;split at h
 ·rename_i hc
  obtain ⟨h1,h2,h3,h4⟩:=hc;cases h;split at hx
  ·exact absurd rfl hx
  rename_i hok
  obtain ⟨A,hA0,hA,hstep⟩:=list_steps h4;obtain ⟨gl,gs,ge⟩:=g
  try dsimp only at h1
  try dsimp only at h2
  try dsimp only at hA
  try dsimp only at hstep
  try dsimp only at hok
  try dsimp only
  obtain ⟨L,rfl⟩:=Int.eq_ofNat_of_zero_le h1;obtain ⟨m,rfl⟩:=Int.eq_ofNat_of_zero_le h3;simp only [Int.toNat_natCast] at hok hA hstep;refine (w79 (L:=L) (n:=m) (gS:=HV.int .i64 gs) (gE:=slE eFromLabelTo ge) (by omega) rfl rfl hA0 hA hstep).mono ?_
  rintro r H' (⟨hok',id,ver,es,rfl,rfl,hes⟩ | ⟨j,j1,j2,j3,rfl,rfl⟩)
  ·exact absurd (okLvl_iff.2 hok') hok
  exact hK
 cases h
theorem c_sortedKeys {id ver:Nat} {es:List (List UInt8 × HV)} {l:List WS} (hes:es.Perm (l.map ent)∧(l.map (·.1)).Nodup∧l.length≤1099511627776) {K:HV→Heap→Prop} (hK:K (slE eStr (sortS (l.map (·.1)))) []) :
  ACall Tryz.prog 42 [.fn (.func 66) [] [.fptr [.mp id ver] 0]] [(id,ver,.map es)] K:=by
 obtain ⟨hp,hn,hb⟩:=hes
 have hlen:es.length=l.length:=by rw [hp.length_eq,List.length_map]
 have hsk:sortS (es.map (·.1))=sortS (l.map (·.1)):=by
  refine sortS_perm ?_;have:=hp.map (·.1);rw [List.map_map] at this;exact this
 refine (w81 (f:=id+1) (perm_keys hp hn) (by omega) (by omega) (by omega) (by omega) (by omega)).conv' ?_
 rintro r H' (⟨he,rfl,rfl⟩ | ⟨id',av,hen,rfl,rfl⟩)
 ·have hl:l=[]:=List.eq_nil_of_length_eq_zero (by rw [← hlen,he]; rfl)
  subst hl;have e0:sortS (([]:List WS).map (·.1))=[]:=List.eq_nil_of_length_eq_zero (by rw [sortS_len]; rfl);rw [e0] at hK;exact ⟨slE eStr [],[],Conv.le (.nil 1),hK⟩
 refine ⟨_,[],Conv.all 2,?_⟩
 have e:es.length=(sortS (es.map (·.1))).length:=by rw [sortS_len,List.length_map]
 rw [e];have hf:=frz_slE eStr (D:=[(id',av,.arr 1 9 ((sortS (es.map (·.1))).map .str))]) (l:=sortS (es.map (·.1))) hget_0 (fun _ _=>rfl);have hk2:=hK;rw [← hsk,← hf] at hk2;exact hk2
section
open Go Go.MapKept
structure IsKv (P:Program) (kt:TypeId) (h:HV) (v:Value):Prop where
 rep:∀ w μ x,Rep w μ h x→x=v
 lit:∃ l,keyOf P kt v=some l
def noIt (id:Nat) (H:Heap):Prop:=∀ j v mv seen cur,hget H j≠some (v,.iter id mv seen cur)
theorem noIt_nil {id:Nat}:noIt id []:=fun _ _ _ _ _ h=>by cases h
theorem noIt_cons {id i v:Nat} {o:AObj} {H:Heap} (ho:∀ mv seen cur,o ≠ .iter id mv seen cur) (h:noIt id H):noIt id ((i,v,o)::H):=fun j u mv seen cur hj=>by
 simp only [hget] at hj;split at hj
 ·cases hj; exact ho _ _ _ rfl
 exact h _ _ _ _ _ hj
theorem noIt_arr {id i v k:Nat} {e:TypeId} {cs:List HV} {H:Heap} (h:noIt id H):noIt id ((i,v,.arr k e cs)::H):=noIt_cons (fun _ _ _ e=>by cases e) h
theorem noIt_km {id i v:Nat} {es:List (Value × Value)} {H:Heap} (h:noIt id H):noIt id ((i,v,.kmap es)::H):=noIt_cons (fun _ _ _ e=>by cases e) h
section
variable {P:Program} {ro:Option Nat} {N:Nat} {s:AS} {w w':World} {μ:Mu} {H:Heap}
theorem find_kv {kt:TypeId} (L:Go.Maps.Keyed P kt) (w:World) {kv:Value} (hk:∃ l,keyOf P kt kv=some l) {ents:Array MapEntry} {es:List (Value × Value)} (he:ents.toList.map (fun x=>(x.key,x.val))=es)
  (hes:∀ e∈es,∃ l,keyOf P kt e.1=some l) :
  ((Instr.findKey kt kv ents.toList).run P w=.ok none w∧∀ e∈es,e.1≠kv)∨∃ j e,(Instr.findKey kt kv ents.toList).run P w=.ok (some (j,e.val)) w∧ents.toList[j]?=some e∧e.key=kv∧(kv,e.val)∈es:=by
 obtain ⟨l,hl⟩:=hk
 rcases L.find w hl ents.toList (fun e hm=>hes (e.key,e.val) (by rw [← he]; exact List.mem_map.2 ⟨e,hm,rfl⟩)) with ⟨h1,h2⟩ | ⟨j,e,h1,h2,h3⟩
 ·refine .inl ⟨h1,fun e hm=>?_⟩
  rw [← he] at hm;obtain ⟨x,hx,rfl⟩:=List.mem_map.1 hm;exact h2 x hx
 refine .inr ⟨j,e,h1,h2,h3,?_⟩;rw [← he,← h3];exact List.mem_map.2 ⟨e,List.mem_of_getElem? h2,rfl⟩
theorem AOp.lookupK {o:Oper} {K:AS→Prop} {t kt et:TypeId} {m x:Operand} {id ver:Nat} {hk:HV} {kv:Value} {es:List (Value × Value)} {T Te:TyI} {z:HV} (L:Go.Maps.Keyed P kt) (hop:o.op=.lookup t m x false) (hN:okd N o.dst=true)
  (hT:ty P t=some T) (hTd:T.desc=.map kt et) (hTe:ty P et=some Te) (hz:constHV Te.zero=some z)
  (hm:s.ev m=some (.mp id ver)) (hx:s.ev x=some hk) (hkv:IsKv P kt hk kv) (hg:hget s.heap id=some (ver,.kmap es)) (hes:∀ e∈es,∃ l,keyOf P kt e.1=some l)
  (h1:(∀ e∈es,e.1≠kv)→K (s.put o.dst z)) (h2:∀ v,(kv,v)∈es→∃ hv,constHV v=some hv∧K (s.put o.dst hv)):AOp P ro N o K s:=by
 refine AOp.value (fun c e=>by rw [hop] at e; cases e) hN fun B μ a w hs=>?_;obtain ⟨b,hl,he,ents,clock,hb,hents⟩:=hs.liveMap (hs.ev hm) hg;have hxe:a.eval x=kv:=hkv.rep w μ _ (hs.ev hx)
 have htd:P.underlying t=some (.map kt et):=by rw [← hTd]; exact (ty_spec hT).1
 obtain ⟨l,hl⟩:=hkv.lit;have hchk:=L.check w ents.isEmpty hl
 rcases find_kv L w hkv.lit hents hes with ⟨h3,h4⟩ | ⟨j,e,h3,h4,h5,h6⟩
 ·refine ⟨Te.zero,z,μ,w,s.heap,?_,hs.sr,Evo.refl w μ,constHV_rep hz,h1 h4⟩
  simp [execOp,hop,hxe,he,Instr.lookup,run_underlying htd,MapKept.run_getObj_map hb,hchk,h3,ty_zero hTe,Result.andThen]
 obtain ⟨hv,hc,hK⟩:=h2 _ h6;refine ⟨e.val,hv,μ,w,s.heap,?_,hs.sr,Evo.refl w μ,constHV_rep hc,hK⟩;simp [execOp,hop,hxe,he,Instr.lookup,run_underlying htd,MapKept.run_getObj_map hb,hchk,h3,Result.andThen]
structure KPut (es es':List (Value × Value)) (kv v:Value):Prop where
 old:∀ e∈es',e∈es∨e=(kv,v)
 new:(kv,v)∈es'
 keep:∀ e∈es,e.1≠kv→e∈es'
theorem AOp.mapUpdateK {o:Oper} {K:AS→Prop} {t kt et:TypeId} {m x y:Operand} {id ver:Nat} {hk:HV} {kv v:Value} {es:List (Value × Value)} {T:TyI} {hv:HV} (L:Go.Maps.Keyed P kt) (hop:o.op=.mapUpdate t m x y∨o.op=.insert t m x y) (hN:okd N o.dst=true)
  (hT:ty P t=some T) (hTd:T.desc=.map kt et)
  (hm:s.ev m=some (.mp id ver)) (hx:s.ev x=some hk) (hkv:IsKv P kt hk kv) (hy:s.ev y=some hv) (hv':∀ w μ x,Rep w μ hv x→x=v) (hg:hget s.heap id=some (ver,.kmap es)) (hes:∀ e∈es,∃ l,keyOf P kt e.1=some l) (hni:noIt id s.heap)
  (h:∀ es',KPut es es' kv v→K (({ s with heap:=hset s.heap id ver (.kmap es') }:AS).put o.dst (.v undef))):AOp P ro N o K s:=by
 refine AOp.skip (fun c e=>by rcases hop with hop | hop <;> (rw [hop] at e; cases e)) hN fun B μ a w hs=>?_;obtain ⟨b,hl,he,ents,clock,hb,hents⟩:=hs.liveMap (hs.ev hm) hg;have hxe:a.eval x=kv:=hkv.rep w μ _ (hs.ev hx);have hye:a.eval y=v:=hv' w μ _ (hs.ev hy)
 have htd:P.underlying t=some (.map kt et):=by rw [← hTd]; exact (ty_spec hT).1
 obtain ⟨l,hkl⟩:=hkv.lit;have hchk:=L.check w false hkl;have hlb:b<w.heap.size:=(Array.getElem?_eq_some_iff.1 hb).1
 have done:∀ (ents':Array MapEntry) (clock':Nat),(Instr.mapUpdate t (.map (some b)) kv v).run P w=.ok () { w with heap:=w.heap.set! b (.map ents' clock') } →
   KPut es (ents'.toList.map (fun x=>(x.key,x.val))) kv v →
   ∃ μ' w' H',(execOp a.eval o).run P w=.ok .skip w'∧SR w' μ' H'∧Evo w μ w' μ'∧K (({ s with heap:=H' }:AS).put o.dst (.v undef)):=by
  intro ents' clock' hrun hput
  obtain ⟨h1,h2⟩:=hs.sr.upd (w':={ w with heap:=w.heap.set! b (.map ents' clock') }) (o':=.kmap (ents'.toList.map (fun x=>(x.key,x.val)))) hg
   (fun cur e hr=>by
    obtain ⟨lo,hi,hc,_⟩:=hr;rw [hb] at hc
    cases hc) hl ⟨rfl,rfl,rfl,Nat.le_refl _⟩ (by simp)
   (fun b' hb'=>by simp [Array.getElem?_setIfInBounds_ne (fun e=>hb' e.symm)])
   (fun E=>⟨ents',clock',by simp [hlb],rfl⟩)
   (fun _ j v mver seen cur l hj=>absurd hj (hni j v mver seen cur))
  refine ⟨μ,_,_,?_,h1,h2,h _ hput⟩
  rcases hop with hop | hop <;> (simp only [execOp,hop,hxe,hye,he,Sem.run_bind,hrun,Result.andThen_ok]; rfl)
 rcases find_kv L w hkv.lit hents hes with ⟨h3,h4⟩ | ⟨j,e,h3,h4,h5,h6⟩
 ·refine done (ents.push { key:=kv,val:=v,born:=clock }) (clock+1) ?_ ?_
  ·simp [Instr.mapUpdate,run_underlying htd,MapKept.run_getObj_map hb,hchk,h3,run_setObj_map _ hb,Result.andThen]
  subst hents;refine ⟨fun e he=>?_,?_,fun e he _=>?_⟩
  ·simpa using he
  ·simp
  simp only [Array.toList_push,List.map_append,List.map_cons,List.map_nil,List.mem_append];exact .inl he
 have hj:ents[j]?=some e:=by simpa using h4
 refine done (ents.modify j fun e=>{ e with key:=kv,val:=v }) clock ?_ ?_
 ·simp [Instr.mapUpdate,run_underlying htd,MapKept.run_getObj_map hb,hchk,h3,hj,h5,L.stays w hkl,run_setObj_map _ hb,Result.andThen]
 subst hents;rw [Array.toList_modify,modify_map_set (fun x:MapEntry=>(x.key,x.val)) (fun e=>{ e with key:=kv,val:=v }) (kv,v) (fun _=>rfl)]
 have hjm:(ents.toList.map (fun x=>(x.key,x.val)))[j]?=some (kv,e.val):=by rw [List.getElem?_map,h4,← h5]; rfl
 have hjl:=(List.getElem?_eq_some_iff.1 hjm).1;refine ⟨fun x hx=>?_,?_,fun x hx hne=>?_⟩
 ·rcases List.mem_or_eq_of_mem_set hx with h | h
  ·exact .inl h
  exact .inr h
 ·exact List.mem_iff_getElem?.2 ⟨j,by rw [List.getElem?_set_self hjl]⟩
 obtain ⟨i,hi⟩:=List.mem_iff_getElem?.1 hx;refine List.mem_iff_getElem?.2 ⟨i,?_⟩;rw [List.getElem?_set_ne,hi]
 rintro rfl
 rw [hjm] at hi;cases hi;exact hne rfl
theorem to_kmap {G:AS→Prop} {sl:List (Nat × HV)} {H:Heap} {id ver:Nat} (hg:hget H id=some (ver,.map [])) (h:G ⟨sl,(id,ver,.kmap [])::H⟩):(⟨sl,H⟩:AS).to G:=by
 intro ro N B μ a w hs;refine ⟨μ,_,h,⟨hs.size,⟨hs.sr.ok,fun i v o hi=>?_,fun i x hx=>?_,hs.sr.inj,hs.sr.held⟩,hs.slot,hs.marks,hs.ro⟩,Evo.refl w μ⟩
 ·simp only [hget] at hi
  split at hi
  ·rename_i e
   subst e;cases hi;obtain ⟨l,hl,hor⟩:=hs.sr.has i ver _ hg;refine ⟨l,hl,?_⟩
   cases l with
   | none=>exact hor.elim
   | some b =>
    obtain ⟨ents,clock,h1,h2,_⟩:=hor;refine ⟨ents,clock,h1,?_⟩
    have:ents.toList=[]:=by simpa using h2
    rw [this];rfl
  exact hs.sr.has i v o hi
 obtain ⟨y,hy⟩:=hs.sr.only i x hx;simp only [hget];split
 ·exact ⟨_,rfl⟩
 exact ⟨y,hy⟩
end
section
variable {P:Program} {ro:Option Nat} {N:Nat} {o:Oper} {sl:List (Nat × HV)} {H:Heap} {all:Array Oper} {rest:List Oper} {K:AS→Prop}
theorem b_setK {t kt et:TypeId} {a b:Nat} {z:Value} {m x y:Operand} {id ver:Nat} {hk:HV} {kv v:Value} {es:List (Value × Value)} {hv:HV} (L:Go.Maps.Keyed P kt) (h0:(o.guard,o.dst,o.op)=(none,none,.mapUpdate t m x y)∨(o.guard,o.dst,o.op)=(none,none,.insert t m x y)) (hT:ty P t=some ⟨.map kt et,a,b,z⟩)
  (hm:(⟨sl,H⟩:AS).ev m=some (.mp id ver)) (hx:(⟨sl,H⟩:AS).ev x=some hk) (hkv:IsKv P kt hk kv) (hy:(⟨sl,H⟩:AS).ev y=some hv) (hv':∀ w μ x,Rep w μ hv x→x=v) (hg:hget H id=some (ver,.kmap es)) (hes:∀ e∈es,∃ l,keyOf P kt e.1=some l) (hni:noIt id H)
  (h:∀ es',KPut es es' kv v→bops P ro N all rest K ⟨sl,(id,ver,.kmap es')::H⟩):bops P ro N all (o::rest) K ⟨sl,H⟩:=by
 have e1:o.guard=none:=by rcases h0 with h0 | h0 <;> exact (Prod.mk.inj h0).1
 have e2:o.dst=none:=by rcases h0 with h0 | h0 <;> exact (Prod.mk.inj (Prod.mk.inj h0).2).1
 have e3:o.op=.mapUpdate t m x y∨o.op=.insert t m x y:=by 
  rcases h0 with h0 | h0
  ·exact .inl (Prod.mk.inj (Prod.mk.inj h0).2).2
  exact .inr (Prod.mk.inj (Prod.mk.inj h0).2).2
 refine b_opX e1 fun hN=>AOp.mapUpdateK L e3 hN hT rfl hm hx hkv hy hv' hg hes hni fun es' hp=>?_;rw [e2];exact bops_le (putN_le (s:=⟨sl,H⟩) id ver _ _) (h es' hp)
theorem o_lookK (hN:okd N o.dst=true) {d:Nat} {t kt et:TypeId} {a b:Nat} {z:Value} {m x:Operand} {id ver:Nat} {hk:HV} {kv:Value} {es:List (Value × Value)} {Te:TyI} {zh:HV} (L:Go.Maps.Keyed P kt) (h0:(o.dst,o.op)=(some d,.lookup t m x false)) (hT:ty P t=some ⟨.map kt et,a,b,z⟩) (hTe:ty P et=some Te) (hz:constHV Te.zero=some zh)
  (hm:(⟨sl,H⟩:AS).ev m=some (.mp id ver)) (hx:(⟨sl,H⟩:AS).ev x=some hk) (hkv:IsKv P kt hk kv) (hg:hget H id=some (ver,.kmap es)) (hes:∀ e∈es,∃ l,keyOf P kt e.1=some l)
  (h1:(∀ e∈es,e.1≠kv)→bops P ro N all rest K ⟨(d,zh)::sl,H⟩) (h2:∀ v,(kv,v)∈es→∃ hv,constHV v=some hv∧bops P ro N all rest K ⟨(d,hv)::sl,H⟩):AOp P ro N o (fun s'=>bops P ro N all rest K s') ⟨sl,H⟩:=by
 obtain ⟨e2,e3⟩:=Prod.mk.inj h0;refine AOp.lookupK L e3 hN hT rfl hTe hz hm hx hkv hg hes (fun hn=>?_) (fun v hv=>?_)
 ·rw [e2]; exact bops_le (put_le (s:=⟨sl,H⟩) d _) (h1 hn)
 obtain ⟨hv',hc,hK⟩:=h2 v hv;exact ⟨hv',hc,by rw [e2]; exact bops_le (put_le (s:=⟨sl,H⟩) d _) hK⟩
end
end
section
open Go Go.MapKept
section
variable {K V:Type}
def kcan (kf:K→Value) (vf:V→Value) (e:List (K × V)):List (Value × Value):=e.map fun x=>(kf x.1,vf x.2)
open Classical in
noncomputable def kE (kf:K→Value) (vf:V→Value) (e:List (K × V)) (es:List (Value × Value)):List (Value × Value):=if ∀ x,x∈es↔x∈kcan kf vf e then es else kcan kf vf e
theorem kE_mem {kf:K→Value} {vf:V→Value} {e:List (K × V)} {es:List (Value × Value)} {x:Value × Value}:x∈kE kf vf e es↔x∈kcan kf vf e:=by
 unfold kE;split
 ·rename_i h; exact h x
 exact Iff.rfl
theorem kE_of {kf:K→Value} {vf:V→Value} {e:List (K × V)} {es:List (Value × Value)} (h:∀ x,x∈es↔x∈kcan kf vf e):kE kf vf e es=es:=if_pos h
def kget [DecidableEq K] [DecidableEq V] (wf:K→Bool) (k:K) (z:V) (e:List (K × V)):Option V :=
 if wf k=true∧∀ x∈e,wf x.1=true then match e.filter (fun x=>decide (x.1=k)) with
  | []=>some z
  | y::l=>if ∀ x∈l,x.2=y.2 then some y.2 else none
 else none
def kset [DecidableEq K] [DecidableEq V] (wf:K→Bool) (k:K) (v:V) (e:List (K × V)):Option (List (K × V)) :=
 if wf k=true∧(∀ x∈e,wf x.1=true)∧∀ x∈e,x.1=k→x.2=v then some (e++[(k,v)]) else none
structure KeyT (P:Program) (kt:TypeId) (kh:K→HV) (kf:K→Value) (wf:K→Bool):Prop where
 law:Go.Maps.Keyed P kt
 inj:∀ a b,kf a=kf b→a=b
 kv:∀ k,wf k=true→IsKv P kt (kh k) (kf k)
variable {P:Program} {kt:TypeId} {kh:K→HV} {kf:K→Value} {wf:K→Bool}
theorem KeyT.lits (T:KeyT P kt kh kf wf) {vf:V→Value} {e:List (K × V)} {es:List (Value × Value)} (h:∀ x∈e,wf x.1=true):∀ x∈kE kf vf e es,∃ l,keyOf P kt x.1=some l:=fun x hx=>by
 obtain ⟨y,hy,rfl⟩:=List.mem_map.1 (kE_mem.1 hx);exact (T.kv _ (h y hy)).lit
variable [DecidableEq K] [DecidableEq V]
theorem kget_spec (T:KeyT P kt kh kf wf) {vf:V→Value} {k:K} {z v:V} {e:List (K × V)} {es:List (Value × Value)} (h:kget wf k z e=some v) :
  wf k=true∧(∀ x∈e,wf x.1=true)∧((∀ x∈kE kf vf e es,x.1≠kf k)→v=z)∧∀ u,(kf k,u)∈kE kf vf e es→u=vf v:=by
 unfold kget at h;split at h
 ·rename_i hc
  refine ⟨hc.1,hc.2,?_⟩;split at h
  ·rename_i hf
   cases h;refine ⟨fun _=>rfl,fun u hu=>?_⟩;obtain ⟨y,hy,he⟩:=List.mem_map.1 (kE_mem.1 hu)
   cases he':decide (y.1=k) with
   | true =>
    have:y∈e.filter fun x=>decide (x.1=k):=List.mem_filter.2 ⟨hy,he'⟩;rw [hf] at this;cases this
   | false=>exact absurd (T.inj _ _ (Prod.mk.inj he).1) (of_decide_eq_false he')
  rename_i y l hf
  split at h
  ·rename_i hl
   cases h
   have hy:y∈e∧y.1=k:=by
    have:y∈e.filter fun x=>decide (x.1=k):=by rw [hf]; exact .head _
    obtain ⟨h1,h2⟩:=List.mem_filter.1 this;exact ⟨h1,of_decide_eq_true h2⟩
   refine ⟨fun hn=>absurd (by rw [hy.2]) (hn (kf y.1,vf y.2) (kE_mem.2 (List.mem_map.2 ⟨y,hy.1,rfl⟩))),fun u hu=>?_⟩;obtain ⟨x,hx,he⟩:=List.mem_map.1 (kE_mem.1 hu);obtain ⟨e1,e2⟩:=Prod.mk.inj he;have hk:=T.inj _ _ e1;have:x∈e.filter fun x=>decide (x.1=k):=List.mem_filter.2 ⟨hx,decide_eq_true hk⟩;rw [hf] at this
   rcases List.mem_cons.1 this with rfl | hm
   ·exact e2.symm
   rw [← e2,hl x hm]
  cases h
 cases h
theorem kset_spec (T:KeyT P kt kh kf wf) {vf:V→Value} {k:K} {v:V} {e e2:List (K × V)} {es:List (Value × Value)} (h:kset wf k v e=some e2) :
  wf k=true∧(∀ x∈e,wf x.1=true)∧∀ es',KPut (kE kf vf e es) es' (kf k) (vf v)→kE kf vf e2 es'=es':=by
 unfold kset at h;split at h
 ·rename_i hc
  cases h;refine ⟨hc.1,hc.2.1,fun es' hp=>kE_of fun x=>?_⟩;unfold kcan;rw [List.map_append,List.mem_append,List.map_cons,List.map_nil,List.mem_singleton];constructor
  ·intro hx
   rcases hp.old x hx with h1 | h1
   ·exact .inl (kE_mem.1 h1)
   exact .inr h1
  rintro (hx | rfl)
  ·by_cases hk:x.1=kf k
   ·obtain ⟨y,hy,rfl⟩:=List.mem_map.1 hx
    have:=hc.2.2 y hy (T.inj _ _ hk);simp only at hk;rw [hk,this];exact hp.new
   exact hp.keep x (kE_mem.2 hx) hk
  exact hp.new
 cases h
end
section
variable {P:Program} {ro:Option Nat} {N:Nat} {o:Oper} {sl:List (Nat × HV)} {H:Heap} {all:Array Oper} {rest:List Oper} {Q:AS→Prop}
theorem to_kmapE {K V:Type} (kf:K→Value) (vf:V→Value) {G:AS→Prop} {id ver:Nat} (hg:hget H id=some (ver,.map [])) (h:∀ es,G ⟨sl,(id,ver,.kmap (kE kf vf [] es))::H⟩):(⟨sl,H⟩:AS).to G:=by
 have e:kE kf vf ([]:List (K × V)) []=[]:=kE_of fun x=>Iff.rfl;refine to_kmap hg ?_;have:=h []
 rwa [e] at this
theorem b_TX {j d:Nat} {oj:Oper} {want b:Bool} (hg:o.guard=some (j,want)) (hj:all[j]?=some oj) (hd:oj.dst=some d) (hb:sget sl d=some (.bool b)) (hw:b=want) (h:okd N o.dst=true→AOp P ro N o (fun s'=>bops P ro N all rest Q s') ⟨(d,.bool want)::sl,H⟩):bops P ro N all (o::rest) Q ⟨sl,H⟩:=by
 intro hok i hl;obtain ⟨ho,hN,hl'⟩:=b_step hok hl;rw [List.length_cons,List.range'_succ];refine AOps.guard ho hN hg hj hd hb (fun e=>?_) (fun e=>by rw [hw] at e; cases want <;> cases e)
 have hs0:AOp P ro N o (AOps P ro N all (List.range' (i+1) rest.length) Q) ⟨(d,.bool want)::sl,H⟩:=fun w0 μ0 μ a w next Q' hs hE hK =>
  h hN w0 μ0 μ a w next Q' hs hE fun μ' s' a' w' hk hs' hE'=>hK μ' s' a' w' (hk hok (i+1) hl') hs' hE'
 intro w0 μ0 μ a w next Q' hs hE hK
 exact hs0 w0 μ0 _ a w next Q' (hs.weaken (put_le d _)) (hE.trans (Evo.cut w μ _)) hK
variable {K V:Type} [DecidableEq K] [DecidableEq V] {kt:TypeId} {kh:K→HV} {kf:K→Value} {wf:K→Bool}
theorem o_klook (hN:okd N o.dst=true) (T:KeyT P kt kh kf wf) (vf:V→Value) (vh:V→HV) (hv:∀ v,constHV (vf v)=some (vh v)) {k:K} {v z:V} {e:List (K × V)} {es:List (Value × Value)} {d:Nat} {t et:TypeId} {a b:Nat} {z0:Value} {m x:Operand} {id ver:Nat} {Te:TyI}
  (h0:(o.dst,o.op)=(some d,.lookup t m x false)) (hT:ty P t=some ⟨.map kt et,a,b,z0⟩) (hTe:ty P et=some Te) (hz:constHV Te.zero=some (vh z))
  (hm:(⟨sl,H⟩:AS).ev m=some (.mp id ver)) (hx:(⟨sl,H⟩:AS).ev x=some (kh k)) (hg:hget H id=some (ver,.kmap (kE kf vf e es))) (hk:kget wf k z e=some v)
  (kk:bops P ro N all rest Q ⟨(d,vh v)::sl,H⟩):AOp P ro N o (fun s'=>bops P ro N all rest Q s') ⟨sl,H⟩:=by
 obtain ⟨h1,h2,h3,h4⟩:=kget_spec T (vf:=vf) (es:=es) hk;refine o_lookK hN T.law h0 hT hTe hz hm hx (T.kv k h1) hg (T.lits h2) (fun hn=>?_) (fun u hu=>?_)
 ·rw [h3 hn] at kk; exact kk
 rw [h4 u hu]; exact ⟨_,hv v,kk⟩
theorem b_kset (T:KeyT P kt kh kf wf) (vf:V→Value) (vh:V→HV) (hv:∀ v w μ x,Rep w μ (vh v) x→x=vf v) {k:K} {v:V} {e e2:List (K × V)} {es:List (Value × Value)} {t et:TypeId} {a b:Nat} {z0:Value} {m x y:Operand} {id ver:Nat}
  (h0:(o.guard,o.dst,o.op)=(none,none,.mapUpdate t m x y)∨(o.guard,o.dst,o.op)=(none,none,.insert t m x y)) (hT:ty P t=some ⟨.map kt et,a,b,z0⟩)
  (hm:(⟨sl,H⟩:AS).ev m=some (.mp id ver)) (hx:(⟨sl,H⟩:AS).ev x=some (kh k)) (hy:(⟨sl,H⟩:AS).ev y=some (vh v)) (hg:hget H id=some (ver,.kmap (kE kf vf e es))) (hk:kset wf k v e=some e2) (hni:noIt id H)
  (kk:∀ es',bops P ro N all rest Q ⟨sl,(id,ver,.kmap (kE kf vf e2 es'))::H⟩):bops P ro N all (o::rest) Q ⟨sl,H⟩:=by
 obtain ⟨h1,h2,h3⟩:=kset_spec T (vf:=vf) (es:=es) hk;refine b_setK T.law h0 hT hm hx (T.kv k h1) hy (hv v) hg (T.lits h2) hni fun es' hp=>?_;have:=kk es'
 rwa [h3 es' hp] at this
end
theorem l_part {α:Type} (c:EncL α) {T:TyI} {l:List α} {j:Int} {x:α} (h:idx l j=some x) {o:Nat} {cs:List HV} (ha:aggD T.desc=true) (hs:o+T.size≤c.k) (hc:((c.C x).drop o).take T.size=cs):loadK T (c.E l) (j.toNat*c.k+o) (· = .agg cs):=by
 have h1:=idx_lt h;refine l_litA ha ?_ ?_
 ·rw [c.len]
  have:(j.toNat+1)*c.k≤l.length*c.k:=Nat.mul_le_mul_right _ (by omega);rw [Nat.succ_mul] at this;omega
 rw [← hc,← c.part h,List.drop_take,List.drop_drop,List.take_take,Nat.min_eq_left (by omega)]
structure RevI (P:Program) (f:FuncId):Prop where
 arr:∀ (H:Heap) (id ver:Nat) (e:TypeId) (l:List Int) (K:HV→Heap→Prop),hget H id=some (ver,.arr 1 e (l.map (.int .i64)))→l.length<4611686018427387904→K (.tup []) (hset H id ver (.arr 1 e (l.reverse.map (.int .i64))))→ACall P f [.ar id ver 1 0 l.length] H K
section
variable {P:Program} {ro:Option Nat} {N:Nat} {o:Oper} {sl:List (Nat × HV)} {H:Heap} {all:Array Oper} {rest:List Oper} {K:AS→Prop}
theorem o_revI {d:Nat} {aa:Array Operand} {ts:Array TypeId} {f:Operand} {g:FuncId} {id ver:Nat} {e:TypeId} {l:List Int} (hS:RevI P g) (h0:(o.dst,o.op)=(some d,.call ⟨.value f,aa,ts⟩)) (hf:(⟨sl,H⟩:AS).ev f=some (.fn (.func g) [] [])) (ha:aa.toList.mapM (⟨sl,H⟩:AS).ev=some [.ar id ver 1 0 l.length])
  (hg:hget H id=some (ver,.arr 1 e (l.map (.int .i64)))) (hl:l.length<4611686018427387904) (k:bops P ro N all rest K ⟨(d,.tup [])::sl,(id,ver,.arr 1 e (l.reverse.map (.int .i64)))::H⟩):aop P 0 [] o (fun s'=>bops P ro N all rest K s') ⟨sl,H⟩:=by
 obtain ⟨h1,h2⟩:=Prod.mk.inj h0;refine op_call h2 hf ha rfl (hS.arr H id ver e l _ hg hl ?_);rw [h1];exact bops_le (put_le (s:=⟨sl,hset H id ver _⟩) d _) (bops_le (hset_le H id ver _ _) k)
end
theorem bool_const (v:Bool):constHV (.bool v)=some (.bool v):=rfl
theorem bool_rep (v:Bool) (w:World) (μ:Mu) (x:Value) (h:Rep w μ (.bool v) x):x=.bool v:=h
end
section
open Go Go.MapKept
set_option linter.unusedSimpArgs false
section
variable {K:Type}
variable [DecidableEq K]
end
section
variable {P:Program} {ro:Option Nat} {N:Nat} {s:AS} {w w':World} {μ:Mu} {H:Heap}
variable {K:Type} {kt:TypeId} {kh:K→HV} {kf:K→Value} {wf:K→Bool}
variable [DecidableEq K]
end
section
variable {P:Program} {ro:Option Nat} {N:Nat} {s:AS} {w w':World} {μ:Mu} {H:Heap}
variable {K:Type} {kt:TypeId} {kh:K→HV} {kf:K→Value} {wf:K→Bool}
end
section
variable {P:Program} {ro:Option Nat} {N:Nat} {s:AS} {w w':World} {μ:Mu} {H:Heap}
variable {K:Type} {kt:TypeId} {kh:K→HV} {kf:K→Value} {wf:K→Bool}
variable [DecidableEq K]
end
section
variable {K:Type}
end
end
section
variable {P:Program} {ro:Option Nat} {N:Nat} {Q:Exit→AS→Prop} {s:AS}
def UW (P:Program) (ro:Option Nat) (N:Nat) (c:Code) (Q:Exit→AS→Prop):Nat→AS→Prop
 | 0,_=>False
 | n+1,s=>AW P ro N c (thenQ (fun s'=>UW P ro N c Q n s') Q) s
end
section
variable {P:Program} {ro:Option Nat} {N:Nat} {o:Oper} {sl:List (Nat × HV)} {H:Heap} {all:Array Oper} {rest:List Oper} {Q:AS→Prop}
variable {K:Type} [DecidableEq K] {kt:TypeId} {kh:K→HV} {kf:K→Value} {wf:K→Bool}
end
section
variable {P:Program} {ro:Option Nat} {N:Nat} {o:Oper} {sl:List (Nat × HV)} {H:Heap} {all:Array Oper} {rest:List Oper} {Q:AS→Prop}
variable {K:Type} {kt:TypeId} {kh:K→HV} {kf:K→Value} {wf:K→Bool}
end
section
variable {P:Program} {ro:Option Nat} {N:Nat} {o:Oper} {sl:List (Nat × HV)} {H:Heap} {all:Array Oper} {rest:List Oper} {Q:AS→Prop}
variable {K:Type} {kt:TypeId} {kh:K→HV} {kf:K→Value} {wf:K→Bool}
variable [DecidableEq K]
end
section
variable {P:Program} {ro:Option Nat} {N:Nat} {s:AS}
end
section
variable {P:Program} {ro:Option Nat} {N:Nat} {o:Oper} {sl:List (Nat × HV)} {H:Heap} {all:Array Oper} {rest:List Oper} {Q:AS→Prop}
end
section
variable {P:Program} {ro:Option Nat} {N B:Nat} {s:AS} {μ μ':Mu} {a:Act} {w w':World}
end
section
variable {P:Program} {ro:Option Nat} {N:Nat} {o:Oper} {sl:List (Nat × HV)} {H:Heap} {all:Array Oper} {rest:List Oper} {K:AS→Prop} {α:Type} (c:EncL α)
end
section
variable {P:Program} {ro:Option Nat} {N:Nat} {Q:Exit→AS→Prop} {s:AS}
theorem UW.step {c:Code} {n:Nat} (h:∀ A:AS→Prop,(∀ s',UW P ro N c Q (n+1) s'→A s')→(∀ s',s'.to A→A s')→AW P ro N c (thenQ A Q) s):UW P ro N c Q (n+2) s :=
 h _ (fun _ h=>h) fun _ h=>AW.to h
end
section
variable {P:Program} {ro:Option Nat} {N:Nat} {o:Oper} {sl:List (Nat × HV)} {H:Heap} {all:Array Oper} {rest:List Oper} {Q:AS→Prop}
variable {K:Type} [DecidableEq K] {kt:TypeId} {kh:K→HV} {kf:K→Value} {wf:K→Bool}
end
def EmptyQ (id ver k n:Nat) (q:HV):Prop:=q=.ar id ver k (n*k) 0∨∃ a0:Option Addr,q=.v (.slice a0 0 0)
theorem EmptyQ.cells {id ver k n:Nat} {q:HV} (h:EmptyQ id ver k n q):q.cells?=some [q]:=by
 rcases h with rfl | ⟨a0,rfl⟩ <;> rfl
section
variable {P:Program} {ro:Option Nat} {N:Nat} {o:Oper} {sl:List (Nat × HV)} {H:Heap} {all:Array Oper} {rest:List Oper} {K:AS→Prop} {α:Type} (c:EncL α)
end
section
variable {P:Program} {ro:Option Nat} {N:Nat} {o:Oper} {sl:List (Nat × HV)} {H:Heap} {all:Array Oper} {rest:List Oper} {Q:AS→Prop}
theorem AOp.eqNil {s:AS} {K:AS→Prop} {t e ty':TypeId} {T:TyI} {x y:Operand} {k n:Nat} {cs:List HV} (hop:o.op=.binOp .eql t x y ty') (hN:okd N o.dst=true) (hT:ty P t=some T) (hd:T.desc=.slice e)
  (hx:s.ev x=some (.sl k n cs)) (hy:s.ev y=some (.v (.slice none 0 0))) (kk:∀ b:Bool,(b=true→n=0)→K (s.put o.dst (.bool b))):AOp P ro N o K s:=by
 refine AOp.value (fun c e=>by rw [hop] at e; cases e) hN fun B μ a w hs=>?_;have hu:=(ty_spec hT).1;rw [hd] at hu;have he2:a.eval y=.slice none 0 0:=hs.ev hy;obtain ⟨_,hl,hm,⟨h0,a0,e1⟩ | ⟨b,off,cap,vs,e1,hcap,hno,hsg,hrl⟩⟩:=hs.ev hx
 ·refine ⟨.bool a0.isNone,.bool a0.isNone,μ,w,s.heap,?_,hs.sr,Evo.refl w μ,rfl,kk _ fun _=>h0⟩
  have:=Lib.run_eql_slice_nil w t e a0 0 0 0 0 hu
  have hg:∀ p q,(eqGuard .eql t x y (.slice p 0 q) (.slice none 0 0)).run P w=.ok () w:=fun p q=>by simp [eqGuard]
  simp only [execOp,hop,e1,he2,Sem.run_bind,hg,Result.andThen_ok,this];rfl
 refine ⟨.bool false,.bool false,μ,w,s.heap,?_,hs.sr,Evo.refl w μ,rfl,kk _ fun h=>by cases h⟩;have:=Lib.run_eql_slice_nil w t e (some ⟨b,off,none⟩) n cap 0 0 hu
 have hg:∀ p q,(eqGuard .eql t x y (.slice p n q) (.slice none 0 0)).run P w=.ok () w:=fun p q=>by simp [eqGuard]
 simp only [execOp,hop,e1,he2,Sem.run_bind,hg,Result.andThen_ok,this];rfl
theorem b_eqNil {d:Nat} {t e ty':TypeId} {a b:Nat} {z:Value} {x y:Operand} {k n:Nat} {cs:List HV} (hgd:o.guard=none) (h0:(o.dst,o.op)=(some d,.binOp .eql t x y ty')) (hT:ty P t=some ⟨.slice e,a,b,z⟩)
  (hx:(⟨sl,H⟩:AS).ev x=some (.sl k n cs)) (hy:(⟨sl,H⟩:AS).ev y=some (.v (.slice none 0 0))) (kk:∀ b:Bool,(b=true→n=0)→bops P ro N all rest Q ⟨(d,.bool b)::sl,H⟩):bops P ro N all (o::rest) Q ⟨sl,H⟩:=by
 refine b_opX hgd fun hN=>?_;obtain ⟨e2',e3⟩:=Prod.mk.inj h0;refine AOp.eqNil e3 hN hT rfl hx hy fun b hb=>?_;rw [e2'];exact bops_le (put_le (s:=⟨sl,H⟩) d _) (kk b hb)
end
section
variable {P:Program} {ro:Option Nat} {N:Nat} {s:AS} {ops:Array Oper} {K:AS→Prop} {F:List Nat→AS→Prop} {L:List Nat}
theorem AOpI.mono {i:Nat} {G G':AS→Prop} (h:AOpI P ro N ops i G s) (hg:∀ s',G s'→G' s'):AOpI P ro N ops i G' s:=fun w0 μ0 μ a w next Q hs hE hK =>
 h w0 μ0 μ a w next Q hs hE fun μ2 s2 a2 w2 hk hs2 hE2=>hK μ2 s2 a2 w2 (hg s2 hk) hs2 hE2
end
def rid (i:Nat):Nat:=(1000000+i)*1000+30
theorem rid_inj {i j:Nat} (h:rid i=rid j):i=j:=by unfold rid at h; omega
theorem hget_hd {id v:Nat} {o:AObj} {H:Heap}:hget ((id,v,o)::H) id=some (v,o):=by simp [hget]
theorem hget_tl {id j v:Nat} {o:AObj} {H:Heap} (h:id≠j):hget ((j,v,o)::H) id=hget H id:=by simp [hget,h]
theorem le_shadow {id v v':Nat} {o o':AObj} {H:Heap}:∀ j x,hget ((id,v,o)::H) j=some x→hget ((id,v,o)::(id,v',o')::H) j=some x:=fun j x h=>by
 by_cases e:j=id
 ·subst e; rw [hget_hd] at h ⊢; exact h
 rw [hget_tl e] at h ⊢; rw [hget_tl e]; exact h
abbrev Rws:=List (Nat × List Int)
def rowsO:Nat→Rws→Heap
 | _,[]=>[]
 | k,(v,l)::t=>(rid k,v,.arr 1 3 (eInt.E l))::rowsO (k+1) t
def hdr:Nat→Rws→List HV
 | _,[]=>[]
 | k,(v,l)::t=>.ar (rid k) v 1 0 l.length::hdr (k+1) t
theorem hdr_len:∀ (k:Nat) (rs:Rws),(hdr k rs).length=rs.length
 | _,[]=>rfl
 | k,(v,l)::t=>by simp [hdr,hdr_len (k+1) t]
theorem hdr_app:∀ (k:Nat) (rs:Rws) (v:Nat) (l:List Int),hdr k (rs++[(v,l)])=hdr k rs++[.ar (rid (k+rs.length)) v 1 0 l.length]
 | _,[],_,_=>rfl
 | k,(v,l)::t,v',l'=>by
  simp only [List.cons_append,hdr,hdr_app (k+1) t v' l',List.length_cons];rw [show k+1+t.length=k+(t.length+1) by omega]
theorem hdr_get:∀ {rs:Rws} (k:Nat) {i v:Nat} {l:List Int},rs[i]?=some (v,l)→(hdr k rs)[i]?=some (.ar (rid (k+i)) v 1 0 l.length)
 | [],_,i,_,_,h=>by simp at h
 | (v,l)::t,k,0,_,_,h=>by
  simp at h;obtain ⟨rfl,rfl⟩:=h;simp [hdr]
 | (v,l)::t,k,i+1,_,_,h=>by
  simp only [List.getElem?_cons_succ] at h;have:=hdr_get (k+1) h;simp only [hdr,List.getElem?_cons_succ,this];rw [show k+1+i=k+(i+1) by omega]
theorem hget_rows:∀ {rs:Rws} (k:Nat) {i v:Nat} {l:List Int},rs[i]?=some (v,l)→hget (rowsO k rs) (rid (k+i))=some (v,.arr 1 3 (eInt.E l))
 | [],_,i,_,_,h=>by simp at h
 | (v,l)::t,k,0,_,_,h=>by
  simp at h;obtain ⟨rfl,rfl⟩:=h;exact hget_hd
 | (v,l)::t,k,i+1,_,_,h=>by
  simp only [List.getElem?_cons_succ] at h;have:=hget_rows (k+1) h;show hget ((rid k,v,_)::rowsO (k+1) t) (rid (k+(i+1)))=_;rw [hget_tl (fun e=>by have:=rid_inj e; omega),← this,show k+1+i=k+(i+1) by omega]
theorem leH_rows {H:Heap}:∀ (rs:Rws) (k:Nat),(∀ i v l,rs[i]?=some (v,l)→hget H (rid (k+i))=some (v,.arr 1 3 (eInt.E l)))→leH H (rowsO k rs)
 | [],_,_=>trivial
 | (v,l)::t,k,h=>⟨h 0 v l rfl,leH_rows t (k+1) fun i v' l' hi=>by
  have:=h (i+1) v' l' (by simpa using hi)
  rwa [show k+(i+1)=k+1+i by omega] at this⟩
theorem rows_le {rs:Rws} {v:Nat} {l:List Int} {H:Heap} (hH:∀ i,hget H (rid i)=none):∀ id x,hget (rowsO 0 (rs++[(v,l)])) id=some x→hget ((rid rs.length,v,.arr 1 3 (eInt.E l))::(H++rowsO 0 rs)) id=some x:=by
 refine leH_get (leH_rows _ 0 fun i v' l' hi=>?_)
 have happ:∀ (A B:Heap) (id:Nat),hget A id=none→hget (A++B) id=hget B id:=by
  intro A B id
  induction A with
  | nil=>intro _; rfl
  | cons a A ih =>
   obtain ⟨j,u,o⟩:=a;intro h;by_cases e:id=j
   ·subst e; rw [hget_hd] at h; cases h
   rw [hget_tl e] at h;rw [List.cons_append,hget_tl e];exact ih h
 rw [Nat.zero_add];by_cases hlt:i<rs.length
 ·rw [List.getElem?_append_left hlt] at hi
  rw [hget_tl (fun e=>by have:=rid_inj e; omega),happ _ _ _ (hH i)];have:=hget_rows 0 hi
  rwa [Nat.zero_add] at this
 have hi2:i=rs.length:=by
  have:=(List.getElem?_eq_some_iff.1 hi).1;simp at this;omega
 subst hi2;simp at hi;obtain ⟨rfl,rfl⟩:=hi;exact hget_hd
theorem rows_set {rs:Rws} {i v:Nat} {l l':List Int} (h:rs[i]?=some (v,l)) (hl:l'.length=l.length):hdr 0 (rs.set i (v,l'))=hdr 0 rs∧∀ id x,hget (rowsO 0 (rs.set i (v,l'))) id=some x→hget ((rid i,v,.arr 1 3 (eInt.E l'))::rowsO 0 rs) id=some x:=by
 constructor
 ·refine List.ext_getElem? fun j=>?_
  by_cases hj:j<rs.length
  ·have hb:∃ b,rs[j]?=some b:=⟨rs[j],List.getElem?_eq_getElem hj⟩
   obtain ⟨⟨w,m⟩,hm⟩:=hb;rw [hdr_get 0 hm];by_cases e:i=j
   ·subst e
    rw [h] at hm;obtain ⟨rfl,rfl⟩:=Prod.mk.inj (Option.some.inj hm);rw [hdr_get 0 (show (rs.set i (v,l'))[i]?=some (v,l') by rw [List.getElem?_set_self hj]),hl]
   rw [hdr_get 0 (show (rs.set i (v,l'))[j]?=some (w,m) by rw [List.getElem?_set_ne e]; exact hm)]
  rw [List.getElem?_eq_none (by rw [hdr_len,List.length_set]; omega),List.getElem?_eq_none (by rw [hdr_len]; omega)]
 refine leH_get (leH_rows _ 0 fun j w m hm=>?_);rw [Nat.zero_add];by_cases e:i=j
 ·subst e
  have hi:=(List.getElem?_eq_some_iff.1 h).1;rw [List.getElem?_set_self hi] at hm;cases hm;exact hget_hd
 rw [List.getElem?_set_ne e] at hm;rw [hget_tl (fun x=>e (rid_inj x).symm)];have:=hget_rows 0 hm
 rwa [Nat.zero_add] at this
theorem frz_rows {D:Heap}:∀ (rs:Rws) (k:Nat),(∀ i v l,rs[i]?=some (v,l)→hget D (rid (k+i))=some (v,.arr 1 3 (eInt.E l)))→(hdr k rs).map (frz 2 D)=(rs.map (·.2)).map (slE eInt)
 | [],_,_=>rfl
 | (v,l)::t,k,h=>by
  simp only [hdr,List.map_cons]
  rw [frz_rows t (k+1) fun i v' l' hi=>by
   have:=h (i+1) v' l' (by simpa using hi)
   rwa [show k+(i+1)=k+1+i by omega] at this]
  congr 1
  exact frz_slE eInt (h 0 v l rfl) fun _ _=>rfl
def m_slices_Clone_Lapi_Edge_api_Edge (l:List TFromLabelTo):Option (List TFromLabelTo):=if l.length≤1099511627776 then some l else none
end Go.AW
