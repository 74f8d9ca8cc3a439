import Derived.Test.YtcbhgejpgkpneaaGreatDoorRs2
import Derived.Laws.Externs
import Derived.Lib.Builder
import Derived.Lib.Bytealg
import Derived.Lib.UnsafeStr
import Derived.Shelf.Bits.Mul64
import Derived.Shelf.RegionOpenPlain
import Derived.Shelf.Slices.CompactI
import Derived.Shelf.SlicesE.Clone
import Derived.Shelf.SortM.Plain
import Derived.Shelf.SortM.SortNone
import Derived.Shelf.Strconv.Itoa3
import Derived.Test.YtcbhgejpgkpneaaGreatDoorChecked
import Derived.Test.YtcbhgejpgkpneaaGreatDoorProg
import Derived.WalkKit
namespace Go.AW
open Go
def entE {β : Type} (f : β → HV) (l : List (List UInt8 × β)) : List (List UInt8 × HV) := l.map fun x => (x.1, f x.2)
def mlook {β : Type} (k : List UInt8) : List (List UInt8 × β) → Option β
 | [] => none
 | (q, h) :: es => if k = q then some h else mlook k es
def mputN {β : Type} (k : List UInt8) (h : β) : List (List UInt8 × β) → List (List UInt8 × β)
 | [] => [(k, h)]
 | (q, x) :: es => if k = q then (q, h) :: es else (q, x) :: mputN k h es
theorem alook_ent {β : Type} (f : β → HV) (k : List UInt8) : ∀ l : List (List UInt8 × β), alook k (entE f l) = (mlook k l).map f
 | [] => rfl
 | (q, x) :: l => by
  show alook k ((q, f x) :: entE f l) = _
  simp only [alook, mlook]
  split
  ·rfl
  ·exact alook_ent f k l
theorem mput_ent {β : Type} (f : β → HV) (k : List UInt8) (v : β) : ∀ l : List (List UInt8 × β), mput k (f v) (entE f l) = entE f (mputN k v l)
 | [] => rfl
 | (q, x) :: l => by
  show mput k (f v) ((q, f x) :: entE f l) = _
  simp only [mput, mputN]
  split
  ·rfl
  ·rw [mput_ent f k v l]; rfl
section
variable {P : Program} {ro : Option Nat} {N : Nat} {s : AS} {o : Oper} {sl : List (Nat × HV)} {H : Heap} {all : Array Oper} {rest : List Oper} {K : AS → Prop} {fid : Nat} {β : Type}
theorem o_makeMap (f : β → HV) {d : Nat} {t : TypeId} (id : Nat) (h0 : (o.dst, o.op) = (some d, .makeMap t none)) (hid : fid * 1000 + d = id)
  (k : ∀ ver, bops P ro N all rest K ⟨(d, .mp id ver) :: sl, (id, ver, .map (entE f [])) :: H⟩) : aop P fid [] o (fun s' => bops P ro N all rest K s') ⟨sl, H⟩ := by
 obtain ⟨h1, h2⟩ := Prod.mk.inj h0
 simp only [aop, h2, h1]
 intro ver
 have e : cid fid (some d) = id := hid
 rw [e]
 exact bops_le (putH_le (s := ⟨sl, H⟩) id ver (.map (entE f [])) d (.mp id ver)) (k ver)
theorem o_mapSet (f : β → HV) {t kt et : TypeId} {a b : Nat} {z : Value} {m x y : Operand} {id ver : Nat} {k : List UInt8} {v : β} {es : List (List UInt8 × β)} {a2 b2 : Nat} {z2 : Value} (h0 : (o.dst, o.op) = (none, .mapUpdate t m x y) ∨ (o.dst, o.op) = (none, .insert t m x y)) (hT : ty P t = some ⟨.map kt et, a, b, z⟩) (hK : ty P kt = some ⟨.string, a2, b2, z2⟩)
  (hm : (⟨sl, H⟩ : AS).ev m = some (.mp id ver)) (hx : (⟨sl, H⟩ : AS).ev x = some (.str k)) (hy : (⟨sl, H⟩ : AS).ev y = some (f v)) (hg : hget H id = some (ver, .map (entE f es))) (hn : noIter id H)
  (kk : bops P ro N all rest K ⟨sl, (id, ver, .map (entE f (mputN k v es))) :: H⟩) : aop P 0 [] o (fun s' => bops P ro N all rest K s') ⟨sl, H⟩ := by
 rcases h0 with h0 | h0
 all_goals
  obtain ⟨h1, h2⟩ := Prod.mk.inj h0
  simp only [aop, h2, hT, hm, hx, hy, hK, hg, h1]
  refine ⟨trivial, hn, ?_⟩
  rw [mput_ent]
  exact bops_le (putN_le (s := ⟨sl, H⟩) id ver _ _) kk
theorem look_dflt {f : β → HV} {k : List UInt8} {v : β} {es : List (List UInt8 × β)} {zh : HV} (h : f v = zh) : ((mlook k es).map f).getD zh = f ((mlook k es).getD v) := by
 cases mlook k es with
 | none => exact h.symm
 | some x => rfl
end
end Go.AW
namespace Go.AW
open Go
section
variable {P : Program} {ro : Option Nat} {N : Nat} {s : AS} {o : Oper} {sl : List (Nat × HV)} {H : Heap} {all : Array Oper} {rest l : List Oper} {K : AS → Prop} {Q : Exit → AS → Prop}
theorem bops_to (h : s.to (bops P ro N all l K)) : bops P ro N all l K s := fun hok i hi w0 μ0 μ a w Q hs hE hK => by
 obtain ⟨μ1, t, ht, hs1, E1⟩ := h ro N w0.heap.size μ a w hs
 exact ht hok i hi w0 μ0 μ1 a w Q hs1 (hE.trans E1) hK
theorem AW.fin {c : Code} (h : AW P ro N c (thenQ (fun s' => s'.to (Q .normal)) Q) s) : AW P ro N c Q s := by
 intro w0 μ0 μ a w hs hE
 refine wpIn_mono (h w0 μ0 μ a w hs hE) ?_
 rintro e a' w' ⟨h1, h2, μ', s', h3, h4, h5⟩
 cases e with
 | normal =>
  obtain ⟨μ2, t, ht, hs2, E2⟩ := h3 ro N w0.heap.size μ' a' w' h4
  exact ⟨h1, h2, μ2, t, ht, hs2, h5.trans E2⟩
 | exit id => exact ⟨h1, h2, μ', s', h3, h4, h5⟩
 | goto l => exact ⟨h1, h2, μ', s', h3, h4, h5⟩
 | ret => exact ⟨h1, h2, μ', s', h3, h4, h5⟩
 | panic ch => exact absurd rfl (h1 ch)
 | outgrown => exact absurd rfl h2
theorem o_callJ {S V R : Type} {M : S → Option R} {B : (S → Option R) → Option R} {r : R} {d : Nat} {aa : Array Operand} {ts : Array TypeId} {f : Operand} {g : FuncId} {fs hs cs args : List HV} (h : jp M B = some r) (St : S → V → AS) (h0 : (o.dst, o.op) = (some d, .call ⟨.value f, aa, ts⟩)) (hf : (⟨sl, H⟩ : AS).ev f = some (.fn (.func g) fs cs)) (ha : aa.toList.mapM (⟨sl, H⟩ : AS).ev = some hs) (hargs : fs ++ hs ++ cs = args)
  (k : ∀ a v, M a = some r → bops P ro N all rest K (St a v)) (b : ∀ M', B M' = some r → ACall P g args H fun q H' => (⟨(d, q) :: sl, H'⟩ : AS).to fun t => ∃ a v, M' a = some r ∧ t = St a v) : aop P 0 [] o (fun s' => bops P ro N all rest K s') ⟨sl, H⟩ := by
 obtain ⟨h1, h2⟩ := Prod.mk.inj h0
 refine op_call h2 hf ha hargs ((b M h).mono fun q H' hk => ?_)
 rw [h1]
 exact bops_le (put_le (s := ⟨sl, H'⟩) d q) (bops_to (to_mono hk fun t ⟨a, v, hm, e⟩ => by subst e; exact k a v hm))
theorem resAll_mono : ∀ {rvs : List ResultVar} {F G : List HV → Prop}, resAll P s rvs F → (∀ h, F h → G h) → resAll P s rvs G := by
 intro rvs
 induction rvs with
 | nil => intro F G h hg; exact hg _ h
 | cons rv rvs ih =>
  intro F G h hg
  have one : ∀ {R R' : HV → Prop}, resOne P s rv R → (∀ v, R v → R' v) → resOne P s rv R' := by
   intro R R' h hr
   unfold resOne at h ⊢
   split at h
   ·split at h
    ·exact hr _ h
    ·exact h.elim
   ·split at h
    ·exact loadK_mono h hr
    ·split at h
     ·exact ⟨h.1, loadK_mono h.2 hr⟩
     ·exact h.elim
    ·exact h.elim
  exact one h fun v hv => ih hv fun hs => hg _
theorem ret_to {rvs : List ResultVar} {hs : List HV} {q : HV} {e : Exit} {K : HV → Heap → Prop} (he : e = .normal ∨ e = .ret) (hr : resAll P s rvs fun hs' => hs' = hs) (hj : joinR hs = q) (h : K q s.heap) : retQ P rvs K e s := by
 refine ⟨he, resAll_mono hr fun hs' e => ?_⟩
 subst e
 exact ⟨q, s.heap, by rw [hj]; exact Conv.refl _ _, h⟩
end
end Go.AW
namespace Go.AW
open Go Go.MapKept
section
variable {P : Program} {ro : Option Nat} {N : Nat} {s : AS} {w w' : World} {μ : Mu} {H : Heap}
theorem AOp.lookupOk {o : Oper} {K : AS → Prop} {t kt et : TypeId} {m x : Operand} {id ver : Nat} {k : List UInt8} {es : List (List UInt8 × HV)} {T Tk Te : TyI} {z : HV} (hop : o.op = .lookup t m x true) (hN : okd N o.dst = true)
  (hT : ty P t = some T) (hTd : T.desc = .map kt et) (hTk : ty P kt = some Tk) (hTkd : Tk.desc = .string) (hTe : ty P et = some Te) (hz : constHV Te.zero = some z)
  (hm : s.ev m = some (.mp id ver)) (hx : s.ev x = some (.str k)) (hg : hget s.heap id = some (ver, .map es))
  (h : K (s.put o.dst (.tup [(alook k es).getD z, .bool (alook k es).isSome]))) : AOp P ro N o K s := by
 refine AOp.value (fun c e => by rw [hop] at e; cases e) hN fun B μ a w hs => ?_
 obtain ⟨b, hl, he, ents, clock, hb, hkeys, hvals, hborn, hlt, hnd, hkl⟩ := hs.liveMap (hs.ev hm) hg
 obtain ⟨hxe, hxl⟩ := hs.ev hx
 have hkd : P.underlying kt = some .string := by rw [← hTkd]; exact (ty_spec hTk).1
 have htd : P.underlying t = some (.map kt et) := by rw [← hTd]; exact (ty_spec hT).1
 have hk : (a.eval x) = strV k := hxe
 have hchk := run_checkKey (P := P) (w := w) hkd (k := strV k) (by simp [strV, IsKey]) ents.isEmpty 9999
 have hzr : Rep w μ z Te.zero := constHV_rep hz
 rcases find_str (k := k) 0 hkeys hvals with ⟨h1, h2⟩ | ⟨j, e, h', h1, h2, h3, h4, h5, h6, h7, h8⟩
 ·refine ⟨.tuple #[Te.zero, .bool false], .tup [z, .bool false], μ, w, s.heap, ?_, hs.sr, Evo.refl w μ, ⟨[Te.zero, .bool false], rfl, _, _, rfl, hzr, _, _, rfl, rfl, rfl⟩, by rw [h1] at h; exact h⟩
  simp [execOp, hop, hk, he, Instr.lookup, run_underlying htd, MapKept.run_getObj_map hb, hchk, run_findKey hkd h2, ty_zero hTe, Result.andThen]
 ·refine ⟨.tuple #[e.val, .bool true], .tup [h', .bool true], μ, w, s.heap, ?_, hs.sr, Evo.refl w μ, ⟨[e.val, .bool true], rfl, _, _, rfl, h4, _, _, rfl, rfl, rfl⟩, by rw [h3] at h; exact h⟩
  simp [execOp, hop, hk, he, Instr.lookup, run_underlying htd, MapKept.run_getObj_map hb, hchk, run_findKey hkd h5, Result.andThen]
section
variable {o : Oper} {sl : List (Nat × HV)} {H : Heap} {all : Array Oper} {rest : List Oper} {K : AS → Prop} {β : Type}
theorem b_opX (hg : o.guard = none) (h : okd N o.dst = true → AOp P ro N o (fun s' => bops P ro N all rest K s') ⟨sl, H⟩) : bops P ro N all (o :: rest) K ⟨sl, H⟩ := by
 intro hok i hl
 obtain ⟨ho, hN, hl'⟩ := b_step hok hl
 rw [List.length_cons, List.range'_succ]
 refine AOps.cons ho hg fun w0 μ0 μ a w next Q hs hE hK => ?_
 exact h hN w0 μ0 μ a w next Q hs hE fun μ' s' a' w' hk hs' hE' => hK μ' s' a' w' (hk hok (i + 1) hl') hs' hE'
theorem one_opX {G : AS → Prop} {s : AS} (hk : AOp P ro N o (fun s' => bops P ro N #[] [] G s') s) : AOp P ro N o G s := by
 intro w0 μ0 μ a w next Q hs hE hK
 refine hk w0 μ0 μ a w next Q hs hE fun μ' s' a' w' h' hs' hE' => ?_
 have hb := h' (by simp) 0 (fun k => by simp)
 have := hb w0 μ0 μ' a' w' (fun _ a w => next a w) hs' hE' (fun μ2 s2 a2 w2 hk2 hs2 hE2 => hK μ2 s2 a2 w2 hk2 hs2 hE2)
 simpa only [List.length_nil, List.range'_zero, wpOpsIn] using this
theorem y_opX {ops : Array Oper} {s : AS} {q : Nat} (hc : (daOk ops && Nat.ble (q + 1) ops.size && waitOk ops q (q + 1)) = true) (ho : ops[q]? = some o) (hg : o.guard = none) (hN : okd N o.dst = true)
  (h : okd N o.dst = true → AOp P ro N o (fun s' => bops P ro N #[] [] (nyops P ro N ops K (q + 1)) s') s) : nyops P ro N ops K q s := by
 simp only [Bool.and_eq_true] at hc
 obtain ⟨⟨h1, h2⟩, h3⟩ := hc
 exact AnyAt.op h1 (Nat.le_of_ble_eq_true h2) h3 (AOpI.plain ho hg (one_opX (h hN)))
theorem o_lookOk (hN : okd N o.dst = true) (f : β → HV) {d : Nat} {t kt et : TypeId} {a b : Nat} {z : Value} {m x : Operand} {id ver : Nat} {k : List UInt8} {v : β} {es : List (List UInt8 × β)} {a2 b2 : Nat} {z2 : Value} {Te : TyI} {zh : HV} (h0 : (o.dst, o.op) = (some d, .lookup t m x true)) (hT : ty P t = some ⟨.map kt et, a, b, z⟩) (hK : ty P kt = some ⟨.string, a2, b2, z2⟩) (hTe : ty P et = some Te) (hz : constHV Te.zero = some zh)
  (hm : (⟨sl, H⟩ : AS).ev m = some (.mp id ver)) (hx : (⟨sl, H⟩ : AS).ev x = some (.str k)) (hg : hget H id = some (ver, .map (entE f es))) (hl : ((mlook k es).map f).getD zh = f v)
  (kk : bops P ro N all rest K ⟨(d, .tup [f v, .bool (mlook k es).isSome]) :: sl, H⟩) : AOp P ro N o (fun s' => bops P ro N all rest K s') ⟨sl, H⟩ := by
 obtain ⟨h2, h3⟩ := Prod.mk.inj h0
 refine AOp.lookupOk h3 hN hT rfl hK rfl hTe hz hm hx hg ?_
 rw [h2, alook_ent, hl]
 have e : (Option.map f (mlook k es)).isSome = (mlook k es).isSome := by cases mlook k es <;> rfl
 rw [e]
 exact bops_le (put_le d _) kk
end
end
end Go.AW
namespace Go.AW
open Go
section
variable {P : Program} {ro : Option Nat} {N : Nat} {s : AS} {ops : Array Oper} {o : Oper} {K : AS → Prop} {G : AS → Prop} {F : List Nat → AS → Prop} {L : List Nat}
def AnyL (P : Program) (ro : Option Nat) (N : Nat) (ops : Array Oper) (K : AS → Prop) (L : List Nat) (s : AS) : Prop :=
 ∀ (w0 : World) (μ0 : Mu) (fuel : Nat) (listed : Array Bool) (μ1 : Mu) (a1 : Act) (w1 : World), listed.size = ops.size → cnt listed ≤ fuel → (∀ i, i < ops.size → listed.getD i false = L.contains i) →
  SRel ro N w0.heap.size μ1 s a1 w1 → Evo w0 μ0 w1 μ1 → wpAnyIn (fence ro) 0 P .any ops (Post ro N (fun e s' => e = .normal ∧ K s') w0 μ0) fuel listed a1 w1
def readyL (ops : Array Oper) (L : List Nat) : List Nat := (List.range ops.size).filter fun i => !L.contains i && (da ops i).all L.contains
def allR : List Nat → (Nat → Prop) → Prop
 | [], _ => True
 | i :: l, f => f i ∧ allR l f
theorem allR_mem {f : Nat → Prop} : ∀ {l : List Nat}, allR l f → ∀ i ∈ l, f i
 | [], _, _, h => by cases h
 | j :: l, h, i, hi => by
  rcases List.mem_cons.1 hi with rfl | hi
  ·exact h.1
  ·exact allR_mem h.2 i hi
theorem l_step (hF : F = AnyL P ro N ops K) (hda : daOk ops = true) (rs : List Nat) (hr : readyL ops L = rs) (hne : rs.isEmpty = false) (h : allR rs fun i => AOpI P ro N ops i (F (i :: L)) s) : F L s := by
 subst hF
 intro w0 μ0 fuel listed μ1 a1 w1 hl hc hlist hs hE
 have hda' := daOk_spec hda
 obtain ⟨q, hq⟩ : ∃ q, q ∈ rs := by
  cases rs with
  | nil => cases hne
  | cons q l => exact ⟨q, List.mem_cons_self ..⟩
 have hq' := hq
 rw [← hr] at hq'
 simp only [readyL, List.mem_filter, List.mem_range, Bool.and_eq_true, Bool.not_eq_true', List.all_eq_true] at hq'
 obtain ⟨hqs, hqL, hqd⟩ := hq'
 have hqn : listed.getD q false = false := by rw [hlist q hqs]; exact hqL
 cases fuel with
 | zero =>
  have := cnt_pos (listed := listed) (i := q) (by rw [getD_tf (by omega)]; exact hqn)
  omega
 | succ fuel =>
  refine ⟨fun hr0 => ?_, fun i hi => ?_⟩
  ·exfalso
   have : q ∈ Region.ready .any ops listed := by
    refine mem_ready.2 ⟨by rw [getD_tf (by omega)]; exact hqn, ops[q], by simp [hqs], fun e he hb => ?_⟩
    have hk : e.on ∈ da ops q := by
     simp only [da, Array.getElem?_eq_getElem hqs, List.mem_map, List.mem_filter]
     exact ⟨e, ⟨by simpa using he, hb⟩, rfl⟩
    rw [hlist _ (Nat.lt_trans (hda' q hqs _ hk) hqs)]
    exact hqd _ hk
   rw [hr0] at this
   cases this
  ·have hdone := deps_done hi
   obtain ⟨h0, o, ho, _⟩ := mem_ready.1 hi
   have his := (Array.getElem?_eq_some_iff.1 ho).1
   have h0' := h0
   rw [getD_tf (by omega), hlist i his] at h0'
   have hir : i ∈ rs := by
    rw [← hr]
    simp only [readyL, List.mem_filter, List.mem_range, Bool.and_eq_true, Bool.not_eq_true', List.all_eq_true]
    refine ⟨his, h0', fun k hk => ?_⟩
    rw [← hlist k (Nat.lt_trans (hda' i his k hk) his)]
    exact hdone k hk
   refine allR_mem h i hir w0 μ0 μ1 a1 w1 _ _ hs hE fun μ2 s2 a2 w2 hk hs2 hE2 => hk w0 μ0 fuel _ μ2 a2 w2 (by simp [hl]) ?_ (fun k hk => ?_) hs2 hE2
   ·have := cnt_set (listed := listed) (i := i) h0
    omega
   ·by_cases hki : i = k
    ·subst hki
     have : i < listed.size := by omega
     simp [this]
    ·rw [getD_set_ne false hki, hlist k hk]
     simp only [List.contains_cons]
     have : (k == i) = false := by simpa using fun e => hki e.symm
     rw [this, Bool.false_or]
theorem l_done (hF : F = AnyL P ro N ops K) (hda : daOk ops = true) (hall : (List.range ops.size).all L.contains = true) (h : K s) : F L s := by
 subst hF
 intro w0 μ0 fuel listed μ1 a1 w1 hl hc hlist hs hE
 have ha : AnyAt P ro N ops (fun e s' => e = .normal ∧ K s') ops.size s := AnyAt.done hda ⟨rfl, h⟩
 refine ha w0 μ0 fuel listed μ1 a1 w1 hl hc (fun i hi => ?_) hs hE
 rw [hlist i hi, decide_eq_true hi]
 exact List.all_eq_true.1 hall i (List.mem_range.2 hi)
theorem l_go {L' : List Nat} {s' : AS} (hF : F = AnyL P ro N ops K) (hsame : (List.range ops.size).all (fun i => L.contains i == L'.contains i) = true) (h : F L' s') (hle : s.le s') : F L s := by
 subst hF
 intro w0 μ0 fuel listed μ1 a1 w1 hl hc hlist hs hE
 refine h w0 μ0 fuel listed (μ1.cut s'.heap) a1 w1 hl hc (fun i hi => ?_) (hs.weaken hle) (hE.trans (Evo.cut w1 μ1 s'.heap))
 rw [hlist i hi]
 exact eq_of_beq (List.all_eq_true.1 hsame i (List.mem_range.2 hi))
theorem l_one {fid : Nat} {mt : List Nat} (hN : okd N o.dst = true) (h : aop P fid mt o (fun s' => bops P ro N #[] [] G s') s) : AOp P ro N o G s := by
 have hk : AOp P ro N o _ s := aop_sound hN h
 intro w0 μ0 μ a w next Q hs hE hK
 refine hk w0 μ0 μ a w next Q hs hE fun μ' s' a' w' h' hs' hE' => ?_
 have hb := h' (by simp) 0 (fun k => by simp)
 have := hb w0 μ0 μ' a' w' (fun _ a w => next a w) hs' hE' (fun μ2 s2 a2 w2 hk2 hs2 hE2 => hK μ2 s2 a2 w2 hk2 hs2 hE2)
 simpa only [List.length_nil, List.range'_zero, wpOpsIn] using this
theorem l_op {i : Nat} {fid : Nat} {mt : List Nat} (ho : ops[i]? = some o) (hg : o.guard = none) (hN : okd N o.dst = true) (h : aop P fid mt o (fun s' => bops P ro N #[] [] G s') s) : AOpI P ro N ops i G s := AOpI.plain ho hg (l_one hN h)
theorem AW.dl {id : Nat} {Q : Exit → AS → Prop} (hm : P.follows .mixedOrders = true) (h : ∀ K : AS → Prop, (∀ s', Q .normal s' → K s') → ∀ F : List Nat → AS → Prop, F = AnyL P ro N ops K → F [] s) : AW P ro N (.region id ops true) Q s := by
 refine AW.conseq (Q' := fun e s' => e = .normal ∧ Q .normal s') (AW.any hm ?_) fun e s1 ⟨he, h⟩ => he ▸ ⟨s1, AS.le_refl s1, h⟩
 intro w0 μ0 fuel listed μ1 a1 w1 hl hc hlist hs hE
 exact h (Q .normal) (fun _ h => h) _ rfl w0 μ0 fuel listed μ1 a1 w1 hl hc (fun i hi => by rw [hlist i hi]; simp) hs hE
theorem AW.dls {id : Nat} {y : Code} {Q : Exit → AS → Prop} (hm : P.follows .mixedOrders = true) (h : ∀ K : AS → Prop, (∀ s', AW P ro N y Q s' → K s') → ∀ F : List Nat → AS → Prop, F = AnyL P ro N ops K → F [] s) : AW P ro N (.seq (.region id ops true) y) Q s :=
 AW.seq (AW.dl hm h)
end
end Go.AW
namespace Go.AW
open Go
def plainOp : Op → Bool
 | .move _ | .assign _ | .fieldAddr .. | .indexAddr .. => true
 | _ => false
section
variable {P : Program} {ro : Option Nat} {N B : Nat} {s : AS} {μ : Mu} {a : Act} {w : World}
theorem aval_free (hs : SRel ro N B μ s a w) (o : Oper) {R : HV → Prop} (hp : plainOp o.op = true) (h : aval P o.op s R) :
  ∃ v, ∀ w', (execOp a.eval o).run P w' = .ok (.value v) w' := by
 unfold aval at h
 split at h
 ·rename_i x hop
  exact ⟨a.eval x, fun w' => by simp [execOp, hop]⟩
 ·rename_i x hop
  exact ⟨a.eval x, fun w' => by simp [execOp, hop]⟩
 all_goals first
  | (rename_i hop; rw [hop] at hp; cases hp; done)
  | exact h.elim
  | skip
 ·rename_i S x f hop
  split at h
  ·rename_i o' T id ver off hf hx
   obtain ⟨fs, fd, hu, hfd, rfl, hT, h0⟩ := fieldOf_spec hf
   obtain ⟨hlive, h⟩ := h
   rcases hs.ev hx with ⟨b, hl, he⟩ | ⟨hd, ad, he⟩
   ·exact ⟨.pointer (some ⟨b, off + fd.offset, none⟩), fun w' => by simp [execOp, hop, he, Instr.fieldAt, Instr.sureAddr, hu, hfd, fieldPlace, ty_sizeOf hT, h0, Addr.add_lit]⟩
   ·exact absurd hd (hs.notDead hlive)
  ·rename_i o' T cs off hf hx
   obtain ⟨fs, fd, hu, hfd, rfl, hT, h0⟩ := fieldOf_spec hf
   obtain ⟨h9, b, base, vs, he, ho, hsg, hl⟩ := hs.ev hx
   exact ⟨.pointer (some ⟨b, base + (off + fd.offset), none⟩), fun w' => by simp [execOp, hop, he, Instr.fieldAt, Instr.sureAddr, hu, hfd, fieldPlace, ty_sizeOf hT, h0, Addr.add_lit, Nat.add_assoc]⟩
  ·exact h.elim
 ·rename_i t x i hop
  split at h
  ·rename_i e sz by' z k' k n cs ki j hT hk hx hi
   obtain ⟨rfl, h0, h1, h⟩ := h
   obtain ⟨hi', _⟩ := hs.ev hi
   obtain ⟨h9, hcl, _, ⟨hn0, _⟩ | ⟨b, off, cap, vs, he, hcap, ho, hsg, hl⟩⟩ := hs.ev hx
   ·omega
   ·have hu := ty_under hT
    have hz := fun w => elemSize_slice hT rfl hk w
    exact ⟨.pointer (some ⟨b, off + j.toNat * k, none⟩), fun w' => by simp [execOp, hop, he, hi', Instr.indexAt, asIntOf, hu, h0, h1, hz, Addr.add_lit]⟩
  ·rename_i e sz by' z k' id ver k off n ki j hT hk hx hi
   obtain ⟨rfl, h0, h1, hlive, h⟩ := h
   obtain ⟨hi', _⟩ := hs.ev hi
   have hu := ty_under hT
   have hz := fun w => elemSize_slice hT rfl hk w
   rcases hs.ev hx with ⟨l, hl, ⟨_, _, hn, _⟩ | ⟨b, cap, cur, e', rfl, he, hnc, hcm, hrow, hsz⟩⟩ | ⟨hd, ad, m, c, he⟩
   ·omega
   ·exact ⟨.pointer (some ⟨b, off + j.toNat * k, none⟩), fun w' => by simp [execOp, hop, he, hi', Instr.indexAt, asIntOf, hu, h0, h1, hz, Addr.add_lit]⟩
   ·exact absurd hd (hs.notDead hlive)
  ·rename_i len e sz by' z k' id ver off ki j hT hk hx hi
   obtain ⟨h0, h1, hlive, h⟩ := h
   obtain ⟨hi', _⟩ := hs.ev hi
   have hu := ty_under hT
   have hz := fun w => elemSize_array hT rfl hk w
   rcases hs.ev hx with ⟨b, hl, he⟩ | ⟨hd, ad, he⟩
   ·exact ⟨.pointer (some ⟨b, off + j.toNat * k', none⟩), fun w' => by simp [execOp, hop, he, hi', Instr.indexAt, Instr.sureAddr, asIntOf, hu, h0, h1, hz, Addr.add_lit]⟩
   ·exact absurd hd (hs.notDead hlive)
  ·rename_i len e sz by' z k' cs off ki j hT hk hx hi
   obtain ⟨h0, h1, h⟩ := h
   obtain ⟨hi', _⟩ := hs.ev hi
   have hu := ty_under hT
   have hz := fun w => elemSize_array hT rfl hk w
   obtain ⟨h9, b, base, vs, he, ho, hsg, hl⟩ := hs.ev hx
   exact ⟨.pointer (some ⟨b, base + (off + j.toNat * k'), none⟩), fun w' => by simp [execOp, hop, he, hi', Instr.indexAt, Instr.sureAddr, asIntOf, hu, h0, h1, hz, Addr.add_lit, Nat.add_assoc]⟩
  ·exact h.elim
end
section
variable {P : Program} {N : Nat} {s : AS} {ops : Array Oper} {o : Oper} {K : AS → Prop} {F : List Nat → AS → Prop} {L : List Nat}
def freeL (ops : Array Oper) (L : List Nat) (i : Nat) : Bool := match ops[i]? with
 | some oi => (List.range ops.size).all fun j => j == i || L.contains j || (da ops j).contains i || match ops[j]? with
  | some oj => oi.apart ops oj
  | none => true
 | none => false
def noSel (ops : Array Oper) : Bool := ops.toList.all fun o => match o.op with | .select .. => false | _ => true
theorem noSel_spec (h : noSel ops = true) (j : Nat) (o : Oper) (cs : Array SelectCase) (b : Bool) (ho : ops[j]? = some o) : o.op ≠ .select cs b := by
 intro heq
 have hm : o ∈ ops.toList := List.mem_of_getElem? (i := j) (by rw [Array.getElem?_toList]; exact ho)
 have := List.all_eq_true.1 h o hm
 simp [heq] at this
def takeOk (N : Nat) (ops : Array Oper) (L : List Nat) (i : Nat) : Bool := match ops[i]? with
 | some o => o.guard.isNone && okd N o.dst && plainOp o.op && noSel ops && !L.contains i && (da ops i).all L.contains && freeL ops L i && daOk ops
 | none => false
theorem l_take {i d : Nat} {v : HV} {sl : List (Nat × HV)} {H : Heap} (hF : F = AnyL P none N ops K) (ho : ops[i]? = some o) (hc : takeOk N ops L i = true) (h0 : (o.dst, isVal o.op) = (some d, true)) (hv : aval P o.op ⟨sl, H⟩ (· = v)) (k : F (i :: L) ⟨(d, v) :: sl, H⟩) : F L ⟨sl, H⟩ := by
 subst hF
 intro w0 μ0 fuel listed μ1 a1 w1 hl hcn hlist hs hE
 unfold takeOk at hc
 rw [ho] at hc
 simp only [Bool.and_eq_true, Bool.not_eq_true', List.all_eq_true] at hc
 obtain ⟨⟨⟨⟨⟨⟨⟨hg, hN⟩, hp⟩, hsel⟩, hiL⟩, hready⟩, hfree⟩, hda⟩ := hc
 have hda' := daOk_spec hda
 have his : i < ops.size := (Array.getElem?_eq_some_iff.1 ho).1
 have hin : listed.getD i false = false := by rw [hlist i his]; exact hiL
 have hg' : o.guard = none := by
  cases h : o.guard with
  | none => rfl
  | some x => rw [h] at hg; cases hg
 cases fuel with
 | zero =>
  have := cnt_pos (listed := listed) (i := i) (by rw [getD_tf (by omega)]; exact hin)
  omega
 | succ fuel =>
  obtain ⟨u, hu⟩ := aval_free hs o hp hv
  have hop : AOp P none N o (AnyL P none N ops K (i :: L)) ⟨sl, H⟩ := l_one (fid := 0) (mt := []) hN (o_val h0 hv (b_nil k))
  have hwp := hop w0 μ0 μ1 a1 w1 (fun a w => wpAnyIn (fence none) 0 P .any ops (Post none N (fun e s' => e = .normal ∧ K s') w0 μ0) fuel (listed.setIfInBounds i true) a w) (fun _ _ _ => False) hs hE (fun μ2 s2 a2 w2 hk hs2 hE2 => hk w0 μ0 fuel _ μ2 a2 w2 (by simp [hl]) (by
   have := cnt_set (listed := listed) (i := i) (by rw [getD_tf (by omega)]; exact hin)
   omega) (fun k hk => by
   by_cases hki : i = k
   ·subst hki
    have : i < listed.size := by omega
    simp [this]
   ·rw [getD_set_ne false hki, hlist k hk]
    simp only [List.contains_cons]
    have : (k == i) = false := by simpa using fun e => hki e.symm
    rw [this, Bool.false_or]) hs2 hE2)
  have hnext := hwp.2
  rw [fence_round, Oper.semAt_none, hu w1] at hnext
  refine wpAnyIn_first (oi := o) (v := u) (fence_round none) ho (noSel_spec hsel) (fun c a w hq => absurd rfl (hq.1 c)) fuel listed a1 w1 (fun j oj hj hne hun hno => ?_) ?_ ⟨.inl ⟨?_, hu⟩, fun w => ?_⟩ hnext
  ·unfold freeL at hfree
   rw [ho] at hfree
   have hjs := (Array.getElem?_eq_some_iff.1 hj).1
   have := List.all_eq_true.1 hfree j (List.mem_range.2 hjs)
   simp only [Bool.or_eq_true, beq_iff_eq, hj] at this
   rcases this with ((h | h) | h) | h
   ·exact absurd h hne
   ·have hx := hlist j hjs
    rw [getD_tf (by omega)] at hun
    rw [hun, h] at hx
    cases hx
   ·exfalso
    have h : i ∈ da ops j := by simpa using h
    simp only [da, hj, List.mem_map, List.mem_filter] at h
    obtain ⟨e, ⟨he, hb⟩, hei⟩ := h
    exact hno e (by simpa using he) hb hei
   ·exact h
  ·refine mem_ready.2 ⟨by rw [getD_tf (by omega)]; exact hin, o, ho, fun e he hb => ?_⟩
   have hk : e.on ∈ da ops i := by
    simp only [da, ho, List.mem_map, List.mem_filter]
    exact ⟨e, ⟨by simpa using he, hb⟩, rfl⟩
   rw [hlist _ (Nat.lt_trans (hda' i his _ hk) his)]
   exact hready _ hk
  ·unfold Region.wanted
   rw [hg']
  ·unfold Oper.about
   cases hh : o.op <;> first | rfl | (rw [hh] at hp; cases hp)
end
end Go.AW
namespace Go.AW
open Go
section
variable {P : Program} {N B : Nat} {s : AS} {ops : Array Oper} {o : Oper} {K : AS → Prop} {F : List Nat → AS → Prop} {L : List Nat}
def lit : HV → Bool
 | .int _ _ | .bool _ | .str _ => true
 | _ => false
theorem lit_rep {w w' : World} {μ μ' : Mu} {h : HV} {v : Value} (hl : lit h = true) (hr : Rep w μ h v) : Rep w' μ' h v := by
 cases h <;> first | exact hr | cases hl
theorem lit_uni {w w' : World} {μ μ' : Mu} {h : HV} {v v' : Value} (hl : lit h = true) (hr : Rep w μ h v) (hr' : Rep w' μ' h v') : v = v' := by
 cases h <;> first | (cases hl; done) | (exact hr.1.trans hr'.1.symm) | (exact Eq.trans hr (Eq.symm hr'))
def Free (P : Program) (o : Oper) (s : AS) (v : HV) : Prop := aval P o.op s (· = v) ∧ (∀ c, o.op ≠ .call c) ∧
 ∀ (B N : Nat) (μ : Mu) (a : Act) (w : World), SRel none N B μ s a w → ∃ u, ∀ w', (execOp a.eval o).run P w' = .ok (.value u) w'
theorem f_bin {op : BinOp} {tx : TypeId} {x y : Operand} {u : TypeId} {h g r : HV} (hop : o.op = .binOp op tx x y u) (hx : s.ev x = some h) (hy : s.ev y = some g) (hb : abinT P op tx h g (· = r)) (hl : (lit h && lit g && lit r) = true) : Free P o s r := by
 simp only [Bool.and_eq_true] at hl
 obtain ⟨⟨l1, l2⟩, l3⟩ := hl
 refine ⟨by rw [hop]; exact v_bin hx hy hb, (fun c e => by rw [hop] at e; cases e), fun B N μ a w hs => ?_⟩
 obtain ⟨q, hv, _, he, hr⟩ := abinT_sound (P := P) (w := w) (tx := tx) (hs.ev hx) (hs.ev hy) hb
 refine ⟨q, fun w' => ?_⟩
 have hx' := lit_rep (w' := w') (μ' := μ) l1 (hs.ev hx)
 have hy' := lit_rep (w' := w') (μ' := μ) l2 (hs.ev hy)
 obtain ⟨q', hv', h1, he', hr'⟩ := abinT_sound (P := P) (tx := tx) hx' hy' hb
 subst he
 subst he'
 have := lit_uni l3 hr hr'
 subst this
 simp [execOp, hop, abinT_guard hx' hy' hb, h1]
def takeOkW (N : Nat) (ops : Array Oper) (L : List Nat) (i : Nat) : Bool := match ops[i]? with
 | some o => o.guard.isNone && okd N o.dst && noSel ops && !L.contains i && (da ops i).all L.contains && freeL ops L i && daOk ops
 | none => false
theorem l_takeW {i d : Nat} {v : HV} {sl : List (Nat × HV)} {H : Heap} (hF : F = AnyL P none N ops K) (ho : ops[i]? = some o) (hc : takeOkW N ops L i = true) (h0 : (o.dst, isVal o.op) = (some d, true)) (hv : Free P o ⟨sl, H⟩ v) (k : F (i :: L) ⟨(d, v) :: sl, H⟩) : F L ⟨sl, H⟩ := by
 subst hF
 obtain ⟨hv, hnc, hfr⟩ := hv
 intro w0 μ0 fuel listed μ1 a1 w1 hl hcn hlist hs hE
 unfold takeOkW at hc
 rw [ho] at hc
 simp only [Bool.and_eq_true, Bool.not_eq_true', List.all_eq_true] at hc
 obtain ⟨⟨⟨⟨⟨⟨hg, hN⟩, hsel⟩, hiL⟩, hready⟩, hfree⟩, hda⟩ := hc
 have hda' := daOk_spec hda
 have his : i < ops.size := (Array.getElem?_eq_some_iff.1 ho).1
 have hin : listed.getD i false = false := by rw [hlist i his]; exact hiL
 have hg' : o.guard = none := by
  cases h : o.guard with
  | none => rfl
  | some x => rw [h] at hg; cases hg
 cases fuel with
 | zero =>
  have := cnt_pos (listed := listed) (i := i) (by rw [getD_tf (by omega)]; exact hin)
  omega
 | succ fuel =>
  obtain ⟨u, hu⟩ := hfr _ _ _ _ _ hs
  have hop : AOp P none N o (AnyL P none N ops K (i :: L)) ⟨sl, H⟩ := l_one (fid := 0) (mt := []) hN (o_val h0 hv (b_nil k))
  have hwp := hop w0 μ0 μ1 a1 w1 (fun a w => wpAnyIn (fence none) 0 P .any ops (Post none N (fun e s' => e = .normal ∧ K s') w0 μ0) fuel (listed.setIfInBounds i true) a w) (fun _ _ _ => False) hs hE (fun μ2 s2 a2 w2 hk hs2 hE2 => hk w0 μ0 fuel _ μ2 a2 w2 (by simp [hl]) (by
   have := cnt_set (listed := listed) (i := i) (by rw [getD_tf (by omega)]; exact hin)
   omega) (fun k hk => by
   by_cases hki : i = k
   ·subst hki
    have : i < listed.size := by omega
    simp [this]
   ·rw [getD_set_ne false hki, hlist k hk]
    simp only [List.contains_cons]
    have : (k == i) = false := by simpa using fun e => hki e.symm
    rw [this, Bool.false_or]) hs2 hE2)
  have hnext := hwp.2
  rw [fence_round, Oper.semAt_none, hu w1] at hnext
  refine wpAnyIn_first (oi := o) (v := u) (fence_round none) ho (noSel_spec hsel) (fun c a w hq => absurd rfl (hq.1 c)) fuel listed a1 w1 (fun j oj hj hne hun hno => ?_) ?_ ⟨.inl ⟨?_, hu⟩, fun w => ?_⟩ hnext
  ·unfold freeL at hfree
   rw [ho] at hfree
   have hjs := (Array.getElem?_eq_some_iff.1 hj).1
   have := List.all_eq_true.1 hfree j (List.mem_range.2 hjs)
   simp only [Bool.or_eq_true, beq_iff_eq, hj] at this
   rcases this with ((h | h) | h) | h
   ·exact absurd h hne
   ·have hx := hlist j hjs
    rw [getD_tf (by omega)] at hun
    rw [hun, h] at hx
    cases hx
   ·exfalso
    have h : i ∈ da ops j := by simpa using h
    simp only [da, hj, List.mem_map, List.mem_filter] at h
    obtain ⟨e, ⟨he, hb⟩, hei⟩ := h
    exact hno e (by simpa using he) hb hei
   ·exact h
  ·refine mem_ready.2 ⟨by rw [getD_tf (by omega)]; exact hin, o, ho, fun e he hb => ?_⟩
   have hk : e.on ∈ da ops i := by
    simp only [da, ho, List.mem_map, List.mem_filter]
    exact ⟨e, ⟨by simpa using he, hb⟩, rfl⟩
   rw [hlist _ (Nat.lt_trans (hda' i his _ hk) his)]
   exact hready _ hk
  ·unfold Region.wanted
   rw [hg']
  ·unfold Oper.about
   split
   ·rename_i c h; exact absurd h (hnc c)
   ·rfl
end
end Go.AW
namespace Go.AW
open Go
theorem loopN {S X : Type} {body : S → Option (Stp S X)} {Q : X → Prop} (n : Nat) (I : Nat → S → Prop)
  (step : ∀ i s, i < n → I i s → (∃ s', body s = some (.next s') ∧ I (i + 1) s') ∨ ∃ x, body s = some (.exit x) ∧ Q x) (fin : ∀ s, I n s → ∃ x, body s = some (.exit x) ∧ Q x) :
  ∀ (k : Nat) (s : S), k ≤ n → I k s → ∃ x, loopW body s = some x ∧ Q x := by
 intro k s hk h
 obtain ⟨d, rfl⟩ : ∃ d, n = k + d := ⟨n - k, by omega⟩
 induction d generalizing k s with
 | zero =>
  obtain ⟨x, h1, h2⟩ := fin s h
  exact ⟨x, loopW_exit h1, h2⟩
 | succ d ih =>
  rcases step k s (by omega) h with ⟨s', h1, h2⟩ | ⟨x, h1, h2⟩
  ·have e : k + (d + 1) = (k + 1) + d := by omega
   rw [e] at step fin
   obtain ⟨x, h3, h4⟩ := ih (k + 1) s' h2 step fin (by omega)
   exact ⟨x, by rw [loopW_next h1]; exact h3, h4⟩
  ·exact ⟨x, loopW_exit h1, h2⟩
theorem loop_any {S X : Type} {body : S → Option (Stp S X)} (st : Nat → S) (n : Nat) (p : Nat → Bool) (xr xf : X) (h : ∀ i, i < n → body (st i) = if p i = true then some (.exit xr) else some (.next (st (i + 1)))) (hf : body (st n) = some (.exit xf)) {s0 : S} (hs0 : s0 = st 0) :
  loopW body s0 = some (if (List.range n).any p = true then xr else xf) := by
 subst hs0
 obtain ⟨x, hx, hq⟩ := loopN (body := body) (Q := fun x => x = if (List.range n).any p = true then xr else xf) n (fun i s => s = st i ∧ (List.range i).any p = false) (fun i s hi ⟨hs, ha⟩ => by
  subst hs
  rw [h i hi]
  by_cases hp : p i = true
  ·refine .inr ⟨xr, by rw [if_pos hp], ?_⟩
   rw [if_pos]
   exact List.any_eq_true.2 ⟨i, List.mem_range.2 hi, hp⟩
  ·refine .inl ⟨_, by rw [if_neg hp], rfl, ?_⟩
   rw [List.range_succ, List.any_append, ha]
   simpa using hp) (fun s ⟨hs, ha⟩ => by subst hs; exact ⟨xf, hf, by rw [if_neg]; rw [ha]; simp⟩) 0 (st 0) (Nat.zero_le _) ⟨rfl, rfl⟩
 rw [hx, hq]
theorem loop_is {S X : Type} {body : S → Option (Stp S X)} (st : Nat → S) (n : Nat) (x : X) (h : ∀ i, i < n → body (st i) = some (.next (st (i + 1)))) (hf : body (st n) = some (.exit x)) {s0 : S} (hs0 : s0 = st 0) : loopW body s0 = some x := by
 subst hs0
 obtain ⟨y, hy, hq⟩ := loopN (body := body) (Q := fun y => y = x) n (fun i s => s = st i) (fun i s hi hs => by subst hs; exact .inl ⟨_, h i hi, rfl⟩) (fun s hs => by subst hs; exact ⟨x, hf, rfl⟩) 0 (st 0) (Nat.zero_le _) rfl
 rw [hy, hq]
theorem bindL {X R : Type} {o : Option X} {x : X} {M : X → Option R} {r : Option R} (h : o = some x) (k : M x = r) : o.bind M = r := by rw [h]; exact k
theorem lpL {V R Y : Type} {o : Option (Ou V R)} {x : Ou V R} {M : V → Option Y} {Rt : R → Option Y} {r : Option Y} (h : o = some x) (k : lpO (some x) M Rt = r) : lpO o M Rt = r := by rw [h]; exact k
theorem nx {i n : Nat} (hn : n ≤ 9223372036854775807) (h : i < n) : IntKind.wrap .i64 ((i : Int) + 1) = ((i + 1 : Nat) : Int) := by
 rw [w64 (by omega) (by omega)]; omega
theorem ix {α : Type} {l : List α} {i : Nat} (h : i < l.length) : idx l (i : Int) = some l[i] := by rw [idx_nat, List.getElem?_eq_getElem h]
theorem ix0 {α : Type} {l : List α} (h : 0 < l.length) : idx l 0 = some l[0] := ix h
theorem lt_int {i n : Nat} (h : i < n) : (i : Int) < (n : Int) := by omega
theorem not_lt_int (n : Nat) : ¬ (n : Int) < (n : Int) := by omega
abbrev TFromLabelTo := Int × Int × Int
abbrev cFromLabelTo (x : TFromLabelTo) : List HV := [HV.int .i64 x.1, HV.int .i64 x.2.1, HV.int .i64 x.2.2]
abbrev eFromLabelTo : EncL TFromLabelTo := encF 3 cFromLabelTo (fun _ => rfl)
abbrev TLabelsStatesEdges := Int × Int × (List (TFromLabelTo))
abbrev compact_ (l : List Int) : List Int := Lib.compact l
theorem compact_le (l : List Int) : (compact_ l).length ≤ l.length := by
 show (Lib.compactUpTo l.toArray l.length).length ≤ l.length
 unfold Lib.compactUpTo
 rw [List.length_map]
 exact Nat.le_trans (List.length_filter_le _ _) (by simp)
theorem compact_mem {l : List Int} {x : Int} (h : x ∈ compact_ l) : x ∈ l := by
 have h : x ∈ Lib.compactUpTo l.toArray l.length := h
 unfold Lib.compactUpTo at h
 obtain ⟨j, hj, rfl⟩ := List.mem_map.1 h
 have hj := List.mem_range.1 (List.mem_filter.1 hj).1
 have : l.toArray[j]! = l[j] := by simp [hj]
 rw [this]
 exact List.getElem_mem hj
def leaveL (es : List TFromLabelTo) (s : Int) : List (Int × TFromLabelTo) := (es.zipIdx.filter fun p => decide (p.1.1 = s)).map fun p => ((p.2 : Int), p.1)
theorem leaveL_take (es : List TFromLabelTo) (s : Int) {i : Nat} (h : i < es.length) : leaveL (es.take (i + 1)) s = leaveL (es.take i) s ++ if es[i].1 = s then [((i : Int), es[i])] else [] := by
 have e : es.take (i + 1) = es.take i ++ [es[i]] := by rw [List.take_add_one, List.getElem?_eq_getElem h]; rfl
 rw [e]
 simp only [leaveL, List.zipIdx_append, List.filter_append, List.map_append, List.length_take, Nat.min_eq_left (Nat.le_of_lt h), Nat.zero_add]
 congr 1
 by_cases hs : es[i].1 = s <;> simp [List.zipIdx_cons, hs]
theorem leaveL_split (es : List TFromLabelTo) (s : Int) : ∀ (i : Nat), ∃ rest, leaveL es s = leaveL (es.take i) s ++ rest := fun i => by
 refine ⟨((es.drop i).zipIdx (es.take i).length |>.filter fun p => decide (p.1.1 = s)).map fun p => ((p.2 : Int), p.1), ?_⟩
 conv => lhs; rw [← List.take_append_drop i es]
 simp only [leaveL, List.zipIdx_append, List.filter_append, List.map_append, Nat.zero_add]
def y_graph_leaving (g : TLabelsStatesEdges) (s : Int) : Option (List (Int × TFromLabelTo)) := if g.2.2.length ≤ 9223372036854775807 then some (leaveL g.2.2 s) else none
set_option linter.unusedVariables false
noncomputable def m_graph_list (p0 : TFromLabelTo) : Option ((List (Int))) :=
 some [p0.1, p0.2.1, p0.2.2]
noncomputable def m_cmp_isNaN_int (p0 : Int) : Option (Bool) :=
 some (decide (p0 ≠ p0))
noncomputable def m_cmp_Compare_int (p0 : Int) (p1 : Int) : Option (Int) :=
 (m_cmp_isNaN_int p0).bind fun x1 =>
 (m_cmp_isNaN_int p1).bind fun x3 =>
 if x1 = true then
  if x3 = true then
   some 0
  else
   some (-1)
 else
  if x3 = true then
   some 1
  else
   if p0 < p1 then
    some (-1)
   else
    if p1 < p0 then
     some 1
    else
     some 0
noncomputable def m_slices_Compare_Lint_int (p0 : List (Int)) (p1 : List (Int)) : Option (Int) :=
 lpO (loopW (S := Int) (X := Ou (Unit) (Int)) (fun a1 =>
   if a1 < ((p0).length : Int) then
    (idx p0 a1).bind fun x5 =>
    if ((p1).length : Int) ≤ a1 then
     some (Stp.exit (Ou.ret 1))
    else
     (idx p1 a1).bind fun x7 =>
     (m_cmp_Compare_int x5 x7).bind fun x9 =>
     if x9 ≠ 0 then
      some (Stp.exit (Ou.ret x9))
     else
      some (Stp.next (IntKind.wrap .i64 (a1 + 1)))
   else
    some (Stp.exit (Ou.go ()))) 0) (fun a11 =>
   if ((p0).length : Int) < ((p1).length : Int) then
    some (-1)
   else
    some 0) some
noncomputable def m_graph_by_api_Edge_1 (p0 : TFromLabelTo) (p1 : TFromLabelTo) : Option (Int) :=
 (m_graph_list p0).bind fun x1 =>
 (m_graph_list p1).bind fun x3 =>
 (m_slices_Compare_Lint_int x1 x3).bind fun x5 =>
 some x5
noncomputable def m_graph_Check (p0 : TLabelsStatesEdges) : Option (Int) :=
 jp (fun (a1 : Bool) =>
  if a1 = true then
   some 12
  else
   if p0.2.1 < 0 then
    some 2
   else
    jp (fun (a4 : Bool) =>
     if a4 = true then
      some 4
     else
      lpO (loopW (S := Int) (X := Ou (Unit) (Int)) (fun a7 =>
        if a7 < ((p0.2.2).length : Int) then
         (idx p0.2.2 a7).bind fun x11 =>
         jp (fun (a14 : Bool) =>
          if a14 = true then
           some (Stp.exit (Ou.ret 2))
          else
           jp (fun (a17 : Bool) =>
            if a17 = true then
             some (Stp.exit (Ou.ret 10))
            else
             some (Stp.next (IntKind.wrap .i64 (a7 + 1))))
            fun k19 =>
            if 0 < a7 then
             (idx p0.2.2 (IntKind.wrap .i64 (a7 - 1))).bind fun x20 =>
             (m_graph_by_api_Edge_1 x20 x11).bind fun x22 =>
             k19 (decide (0 ≤ x22))
            else
             k19 false)
          fun k16 =>
          if (min (min x11.1 x11.2.1) x11.2.2) < 0 then
           k16 true
          else
           if p0.2.1 ≤ (max x11.1 x11.2.2) then
            k16 true
           else
            k16 (decide (p0.1 ≤ x11.2.1))
        else
         some (Stp.exit (Ou.go ()))) 0) (fun a27 =>
        some 0) some)
     fun k6 =>
     if 64 < p0.2.1 then
      k6 true
     else
      k6 (decide (1024 < ((p0.2.2).length : Int))))
  fun k3 =>
  if p0.1 < 1 then
   k3 true
  else
   k3 (decide (256 < p0.1))
noncomputable def m_graph_checkSet (p0 : TLabelsStatesEdges) (p1 : List (Int)) : Option (Int) :=
 lpO (loopW (S := Int) (X := Ou (Unit) (Int)) (fun a1 =>
   if a1 < ((p1).length : Int) then
    (idx p1 a1).bind fun x5 =>
    jp (fun (a7 : Bool) =>
     if a7 = true then
      some (Stp.exit (Ou.ret 25))
     else
      jp (fun (a10 : Bool) =>
       if a10 = true then
        some (Stp.exit (Ou.ret 10))
       else
        some (Stp.next (IntKind.wrap .i64 (a1 + 1))))
       fun k12 =>
       if 0 < a1 then
        (idx p1 (IntKind.wrap .i64 (a1 - 1))).bind fun x13 =>
        k12 (decide (x5 ≤ x13))
       else
        k12 false)
     fun k9 =>
     if x5 < 0 then
      k9 true
     else
      k9 (decide (p0.2.1 ≤ x5))
   else
    some (Stp.exit (Ou.go ()))) 0) (fun a17 =>
   some 0) some
noncomputable def m_graph_Step (p0 : TLabelsStatesEdges) (p1 : List (Int)) (p2 : Int) : Option ((List (Int)) × Int) :=
 (m_graph_Check p0).bind fun x1 =>
 if x1 ≠ 0 then
  some ([], 1)
 else
  (m_graph_checkSet p0 p1).bind fun x3 =>
  if x3 ≠ 0 then
   some ([], x3)
  else
   jp (fun (a5 : Bool) =>
    if a5 = true then
     some ([], 2)
    else
     (loopW (S := Int × (List Int)) (X := (List Int)) (fun a9 =>
       if a9.1 < ((p1).length : Int) then
        (idx p1 a9.1).bind fun x13 =>
        (y_graph_leaving p0 x13).bind fun L15 =>
        lpO (forL (S := (List Int)) (X := Unit) (fun a17 (x19 : Int × TFromLabelTo) =>
          if x19.2.2.1 = p2 then
           if fits 8 ((a17 : List Int).length + ([x19.2.2.2]).length) then
            some (Stp.next (a17 ++ [x19.2.2.2]))
           else none
          else
           some (Stp.next a17)) L15 a9.2) (fun a26 =>
          some (Stp.next (IntKind.wrap .i64 (a9.1 + 1), a26))) fun a28 =>
          none
       else
        some (Stp.exit a9.2)) (0, ([] : List Int))).bind fun a31 =>
     if (a31).length < 4611686018427387904 then
      some (compact_ (sortI a31), 0)
     else none)
    fun k7 =>
    if p2 < 0 then
     k7 true
    else
     k7 (decide (p0.1 ≤ p2))
noncomputable def m_ref09_Compare (p0 : TFromLabelTo) (p1 : TFromLabelTo) : Option (Int) :=
 lpO (loopW (S := Int) (X := Ou (Unit) (Int)) (fun a1 =>
   if a1 < 3 then
    (idx [p0.1, p0.2.1, p0.2.2] a1).bind fun x5 =>
    (idx [p1.1, p1.2.1, p1.2.2] a1).bind fun x7 =>
    if x5 < x7 then
     some (Stp.exit (Ou.ret (-1)))
    else
     (idx [p0.1, p0.2.1, p0.2.2] a1).bind fun x9 =>
     (idx [p1.1, p1.2.1, p1.2.2] a1).bind fun x11 =>
     if x11 < x9 then
      some (Stp.exit (Ou.ret 1))
     else
      some (Stp.next (IntKind.wrap .i64 (a1 + 1)))
   else
    some (Stp.exit (Ou.go ()))) 0) (fun a13 =>
   some 0) some
noncomputable def m_ref09_Check (p0 : TLabelsStatesEdges) : Option (Int) :=
 jp (fun (a1 : Bool) =>
  if a1 = true then
   some 12
  else
   if p0.2.1 < 0 then
    some 2
   else
    jp (fun (a4 : Bool) =>
     if a4 = true then
      some 4
     else
      lpO (loopW (S := Int) (X := Ou (Unit) (Int)) (fun a7 =>
        if a7 < ((p0.2.2).length : Int) then
         (idx p0.2.2 a7).bind fun x11 =>
         jp (fun (a14 : Bool) =>
          if a14 = true then
           some (Stp.exit (Ou.ret 2))
          else
           jp (fun (a17 : Bool) =>
            if a17 = true then
             some (Stp.exit (Ou.ret 10))
            else
             some (Stp.next (IntKind.wrap .i64 (a7 + 1))))
            fun k19 =>
            if 0 < a7 then
             (idx p0.2.2 (IntKind.wrap .i64 (a7 - 1))).bind fun x20 =>
             (m_ref09_Compare x20 x11).bind fun x22 =>
             k19 (decide (0 ≤ x22))
            else
             k19 false)
          fun k16 =>
          if x11.1 < 0 then
           k16 true
          else
           if p0.2.1 ≤ x11.1 then
            k16 true
           else
            if x11.2.2 < 0 then
             k16 true
            else
             if p0.2.1 ≤ x11.2.2 then
              k16 true
             else
              if x11.2.1 < 0 then
               k16 true
              else
               k16 (decide (p0.1 ≤ x11.2.1))
        else
         some (Stp.exit (Ou.go ()))) 0) (fun a30 =>
        some 0) some)
     fun k6 =>
     if 64 < p0.2.1 then
      k6 true
     else
      k6 (decide (1024 < ((p0.2.2).length : Int))))
  fun k3 =>
  if p0.1 < 1 then
   k3 true
  else
   k3 (decide (256 < p0.1))
abbrev TNegMag := Bool × (List UInt8)
abbrev cNegMag (x : TNegMag) : List HV := [HV.bool x.1, HV.str x.2]
abbrev eNegMag : EncL TNegMag := encF 2 cNegMag (fun _ => rfl)
noncomputable def m_integer_trim (p0 : List (Int)) : Option ((List (Int))) :=
 (loopW (S := (List Int)) (X := (List Int)) (fun a1 =>
   jp (fun (a5 : Bool) =>
    if a5 = true then
     if 0 ≤ (0 : Int) ∧ (0 : Int) ≤ IntKind.wrap .i64 (((a1).length : Int) - 1) ∧ IntKind.wrap .i64 (((a1).length : Int) - 1) ≤ (a1.length : Int) then
      some (Stp.next ((a1.take (IntKind.wrap .i64 (((a1).length : Int) - 1)).toNat).drop (0 : Int).toNat))
     else none
    else
     some (Stp.exit a1))
    fun k7 =>
    if 0 < ((a1).length : Int) then
     (idx a1 (IntKind.wrap .i64 (((a1).length : Int) - 1))).bind fun x9 =>
     k7 (decide (x9 = 0))
    else
     k7 false) p0).bind fun a12 =>
 some a12
noncomputable def m_integer_number (p0 : Bool) (p1 : List (Int)) : Option (TNegMag) :=
 (m_integer_trim p1).bind fun x2 =>
 if ((x2).length : Int) = 0 then
  some (false, ([] : List UInt8))
 else
  if 0 ≤ (0 : Int) ∧ (0 : Int) ≤ IntKind.wrap .i64 (4 * ((x2).length : Int)) ∧ (IntKind.wrap .i64 (4 * ((x2).length : Int)) : Int) * 1 ≤ 281474976710656 then
   (loopW (S := Int × (List Int)) (X := (List Int)) (fun a6 =>
     if 0 ≤ a6.1 then
      (loopW (S := Int × (List Int)) (X := (List Int)) (fun a10 =>
        if 0 ≤ a10.1 then
         jp (fun (a14 : (List Int)) =>
          some (Stp.next (IntKind.wrap .i64 (a10.1 - 1), a14)))
          fun k16 =>
          (idx x2 a6.1).bind fun x17 =>
          if 0 ≤ (IntKind.wrap .i64 (8 * a10.1)) then
           jp (fun (a20 : Bool) =>
            if a20 = true then
             if fits 1 ((a10.2 : List Int).length + ([IntKind.wrap .u8 (Int.fdiv x17 (2 ^ (min ((IntKind.wrap .i64 (8 * a10.1))).toNat (IntKind.bits .u32))))]).length) then
              k16 (a10.2 ++ [IntKind.wrap .u8 (Int.fdiv x17 (2 ^ (min ((IntKind.wrap .i64 (8 * a10.1))).toNat (IntKind.bits .u32))))])
             else none
            else
             k16 a10.2)
            fun k22 =>
            if (IntKind.wrap .u8 (Int.fdiv x17 (2 ^ (min ((IntKind.wrap .i64 (8 * a10.1))).toNat (IntKind.bits .u32))))) ≠ 0 then
             k22 true
            else
             k22 (decide (0 < (((a10.2).length : Nat) : Int)))
          else none
        else
         some (Stp.exit a10.2)) (3, a6.2)).bind fun a26 =>
      some (Stp.next (IntKind.wrap .i64 (a6.1 - 1), a26))
     else
      some (Stp.exit a6.2)) (IntKind.wrap .i64 (((x2).length : Int) - 1), List.replicate (0 : Int).toNat (0 : Int))).bind fun a28 =>
   some (p0, a28.map fun n => UInt8.ofNat n.toNat)
  else none
noncomputable def m_integer_Of (p0 : Int) : Option (TNegMag) :=
 jp (fun (a2 : Int) =>
  (m_integer_number (decide (p0 < 0)) [IntKind.wrap .u32 a2, IntKind.wrap .u32 (Int.fdiv a2 (2 ^ (min (32 : Int).toNat (IntKind.bits .u64))))]).bind fun x5 =>
  some x5)
  fun k4 =>
  if p0 < 0 then
   k4 (IntKind.wrap .u64 (0 - (IntKind.wrap .u64 p0)))
  else
   k4 (IntKind.wrap .u64 p0)
noncomputable def m_integer_digits (p0 : TNegMag) : Option ((List (Int))) :=
 if 0 ≤ (IntKind.wrap .i64 (Int.tdiv (IntKind.wrap .i64 (((p0.2).length : Int) + 3)) 4) : Int) ∧ (IntKind.wrap .i64 (Int.tdiv (IntKind.wrap .i64 (((p0.2).length : Int) + 3)) 4) : Int) ≤ IntKind.wrap .i64 (Int.tdiv (IntKind.wrap .i64 (((p0.2).length : Int) + 3)) 4) ∧ (IntKind.wrap .i64 (Int.tdiv (IntKind.wrap .i64 (((p0.2).length : Int) + 3)) 4) : Int) * 4 ≤ 281474976710656 then
  (loopW (S := Int × (List Int)) (X := (List Int)) (fun a3 =>
    if a3.1 < ((p0.2).length : Int) then
     (idx p0.2 (IntKind.wrap .i64 ((IntKind.wrap .i64 (((p0.2).length : Int) - 1)) - a3.1))).bind fun x7 =>
     (idx a3.2 (IntKind.wrap .i64 (Int.tdiv a3.1 4))).bind fun x9 =>
     (idx a3.2 (IntKind.wrap .i64 (Int.tdiv a3.1 4))).bind fun x11 =>
     if 0 ≤ (IntKind.wrap .i64 (8 * (Int.tmod a3.1 4))) then
      (idx a3.2 (IntKind.wrap .i64 (Int.tdiv a3.1 4))).bind fun x14 =>
      some (Stp.next (IntKind.wrap .i64 (a3.1 + 1), (a3.2).set (IntKind.wrap .i64 (Int.tdiv a3.1 4)).toNat (IntKind.wrap .u32 (BitVec.ofInt (IntKind.bits .u32) x11 ||| BitVec.ofInt (IntKind.bits .u32) (IntKind.wrap .u32 ((IntKind.wrap .u32 (x7.toNat : Int)) * 2 ^ (min ((IntKind.wrap .i64 (8 * (Int.tmod a3.1 4)))).toNat (IntKind.bits .u32))))).toNat)))
     else none
    else
     some (Stp.exit a3.2)) (0, List.replicate (IntKind.wrap .i64 (Int.tdiv (IntKind.wrap .i64 (((p0.2).length : Int) + 3)) 4)).toNat (0 : Int))).bind fun a16 =>
  (m_integer_trim a16).bind fun x18 =>
  some x18
 else none
noncomputable def m_integer_add (p0 : List (Int)) (p1 : List (Int)) : Option ((List (Int))) :=
 jp (fun (a1 : (List Int) × (List Int)) =>
  if 0 ≤ (IntKind.wrap .i64 (((a1.1).length : Int) + 1) : Int) ∧ (IntKind.wrap .i64 (((a1.1).length : Int) + 1) : Int) ≤ IntKind.wrap .i64 (((a1.1).length : Int) + 1) ∧ (IntKind.wrap .i64 (((a1.1).length : Int) + 1) : Int) * 4 ≤ 281474976710656 then
   (loopW (S := Int × Int × (List Int)) (X := (List Int) × Int) (fun a6 =>
     if a6.2.1 < ((a1.1).length : Int) then
      (idx a1.1 a6.2.1).bind fun x10 =>
      jp (fun (a12 : Int) =>
       (idx a6.2.2 a6.2.1).bind fun x15 =>
       some (Stp.next (Int.fdiv a12 (2 ^ (min (32 : Int).toNat (IntKind.bits .u64))), IntKind.wrap .i64 (a6.2.1 + 1), (a6.2.2).set (a6.2.1).toNat (IntKind.wrap .u32 a12))))
       fun k14 =>
       if a6.2.1 < ((a1.2).length : Int) then
        (idx a1.2 a6.2.1).bind fun x17 =>
        k14 (IntKind.wrap .u64 ((IntKind.wrap .u64 ((IntKind.wrap .u64 x10) + a6.1)) + (IntKind.wrap .u64 x17)))
       else
        k14 (IntKind.wrap .u64 ((IntKind.wrap .u64 x10) + a6.1))
     else
      some (Stp.exit (a6.2.2, a6.1))) (0, 0, List.replicate (IntKind.wrap .i64 (((a1.1).length : Int) + 1)).toNat (0 : Int))).bind fun a19 =>
   (idx a19.1 ((a1.1).length : Int)).bind fun x21 =>
   (m_integer_trim ((a19.1).set (((a1.1).length : Int)).toNat (IntKind.wrap .u32 a19.2))).bind fun x23 =>
   some x23
  else none)
  fun k3 =>
  if ((p0).length : Int) < ((p1).length : Int) then
   k3 (p1, p0)
  else
   k3 (p0, p1)
noncomputable def m_integer_compare (p0 : List (Int)) (p1 : List (Int)) : Option (Int) :=
 if ((p0).length : Int) ≠ ((p1).length : Int) then
  if ((p0).length : Int) < ((p1).length : Int) then
   some (-1)
  else
   some 1
 else
  lpO (loopW (S := Int) (X := Ou (Unit) (Int)) (fun a1 =>
    if 0 ≤ a1 then
     (idx p0 a1).bind fun x5 =>
     (idx p1 a1).bind fun x7 =>
     if x5 ≠ x7 then
      (idx p0 a1).bind fun x9 =>
      (idx p1 a1).bind fun x11 =>
      if x9 < x11 then
       some (Stp.exit (Ou.ret (-1)))
      else
       some (Stp.exit (Ou.ret 1))
     else
      some (Stp.next (IntKind.wrap .i64 (a1 - 1)))
    else
     some (Stp.exit (Ou.go ()))) (IntKind.wrap .i64 (((p0).length : Int) - 1))) (fun a13 =>
    some 0) some
noncomputable def m_integer_subtract (p0 : List (Int)) (p1 : List (Int)) : Option ((List (Int))) :=
 if 0 ≤ (((p0).length : Int) : Int) ∧ (((p0).length : Int) : Int) ≤ ((p0).length : Int) ∧ (((p0).length : Int) : Int) * 4 ≤ 281474976710656 then
  (loopW (S := Int × Int × (List Int)) (X := (List Int)) (fun a3 =>
    if a3.2.1 < ((p0).length : Int) then
     (idx p0 a3.2.1).bind fun x7 =>
     jp (fun (a9 : Int) =>
      jp (fun (a12 : Int × Int) =>
       (idx a3.2.2 a3.2.1).bind fun x15 =>
       some (Stp.next (a12.1, IntKind.wrap .i64 (a3.2.1 + 1), (a3.2.2).set (a3.2.1).toNat (IntKind.wrap .u32 a12.2))))
       fun k14 =>
       if a9 < 0 then
        k14 (1, IntKind.wrap .i64 (a9 + 4294967296))
       else
        k14 (0, a9))
      fun k11 =>
      if a3.2.1 < ((p1).length : Int) then
       (idx p1 a3.2.1).bind fun x17 =>
       k11 (IntKind.wrap .i64 ((IntKind.wrap .i64 ((IntKind.wrap .i64 x7) - a3.1)) - (IntKind.wrap .i64 x17)))
      else
       k11 (IntKind.wrap .i64 ((IntKind.wrap .i64 x7) - a3.1))
    else
     some (Stp.exit a3.2.2)) (0, 0, List.replicate (((p0).length : Int)).toNat (0 : Int))).bind fun a19 =>
  (m_integer_trim a19).bind fun x21 =>
  some x21
 else none
noncomputable def m_integer_Add (p0 : TNegMag) (p1 : TNegMag) : Option (TNegMag) :=
 (m_integer_digits p0).bind fun x2 =>
 (m_integer_digits p1).bind fun x4 =>
 if (p0.1 == p1.1) = true then
  (m_integer_add x2 x4).bind fun x6 =>
  (m_integer_number p0.1 x6).bind fun x8 =>
  some x8
 else
  (m_integer_compare x2 x4).bind fun x10 =>
  if x10 < 0 then
   (m_integer_subtract x4 x2).bind fun x12 =>
   (m_integer_number p1.1 x12).bind fun x14 =>
   some x14
  else
   (m_integer_subtract x2 x4).bind fun x16 =>
   (m_integer_number p0.1 x16).bind fun x18 =>
   some x18
abbrev TNumDen := TNegMag × TNegMag
abbrev cNumDen (x : TNumDen) : List HV := [HV.bool x.1.1, HV.str x.1.2, HV.bool x.2.1, HV.str x.2.2]
abbrev hI (n : Int) : HV := .int .i64 n
abbrev nS : List UInt8 := []
abbrev jF (j : List (List UInt8) × List (List UInt8)) : HV := .fptr [slE eStr j.1, slE eStr j.2] 0
abbrev jA (j : List (List UInt8) × List (List UInt8)) : HV := .agg [slE eStr j.1, slE eStr j.2]
abbrev gF (g : TLabelsStatesEdges) : HV := .fptr [.int .i64 g.1, .int .i64 g.2.1, slE eFromLabelTo g.2.2] 0
abbrev gA (g : TLabelsStatesEdges) : HV := .agg [.int .i64 g.1, .int .i64 g.2.1, slE eFromLabelTo g.2.2]
abbrev zND : List HV := [.bool false, .str [], .bool false, .str []]
theorem to_L {s s' : AS} {G : AS → Prop} (h : G s') (h1 : gets s.slots s'.slots = somes s'.slots := by exact rfl) (h2 : hgets s.heap s'.heap = hsomes s'.heap := by exact rfl) : s.to G := to_le (le_q h1 h2) h
theorem bf {P : Program} {ro : Option Nat} {N : Nat} {all : Array Oper} {s : AS} {c : Code} {Q : Exit → AS → Prop} {K : AS → Prop} (hK : ∀ s', AW P ro N c Q s' → K s') (s' : AS) (h : AW P ro N c Q s') (h1 : gets s.slots s'.slots = somes s'.slots := by exact rfl) (h2 : hgets s.heap s'.heap = hsomes s'.heap := by exact rfl) : bops P ro N all [] K s := b_fin hK (le_q h1 h2) h
theorem lg {P : Program} {ro : Option Nat} {N : Nat} {ops : Array Oper} {s s' : AS} {K : AS → Prop} {F : List Nat → AS → Prop} {L L' : List Nat} (hF : F = AnyL P ro N ops K) (h : F L' s') (hsame : (List.range ops.size).all (fun i => L.contains i == L'.contains i) = true := by exact rfl) (h1 : gets s.slots s'.slots = somes s'.slots := by exact rfl) (h2 : hgets s.heap s'.heap = hsomes s'.heap := by exact rfl) : F L s := l_go hF hsame h (le_q h1 h2)
theorem cT {p : Prop} [Decidable p] {R : Type} {a b : Option R} {r : R} (hc : decide p = true) (h : (if p then a else b) = some r) : p ∧ a = some r := ⟨of_decide_eq_true hc, ifT (of_decide_eq_true hc) h⟩
theorem cF {p : Prop} [Decidable p] {R : Type} {a b : Option R} {r : R} (hc : decide p = false) (h : (if p then a else b) = some r) : ¬ p ∧ b = some r := ⟨of_decide_eq_false hc, ifF (of_decide_eq_false hc) h⟩
theorem lb {n m : Nat} (h : Nat.ble n m = true) : n ≤ m := Nat.le_of_ble_eq_true h
theorem l_ov {P : Program} {ro : Option Nat} {N i d : Nat} {ops : Array Oper} {o : Oper} {G : AS → Prop} {v : HV} {sl : List (Nat × HV)} {H : Heap} (ho : ops[i]? = some o) (hg : o.guard = none) (hN : okd N o.dst = true) (h0 : (o.dst, isVal o.op) = (some d, true)) (hv : aval P o.op ⟨sl, H⟩ (· = v)) (k : G ⟨(d, v) :: sl, H⟩) : AOpI P ro N ops i G ⟨sl, H⟩ := l_op (fid := 0) (mt := []) ho hg hN (o_val h0 hv (b_nil k))
abbrev ASf := List (Nat × HV) → Heap → AS
end Go.AW
namespace Go.AW
open Go Go.Proofs
theorem ty2 : ty Tryz.prog 2 = some { desc := TypeDesc.int IntKind.i64, size := 1, bytes := 8, zero := Value.int IntKind.i64 (0) } := by kernel_rfl
theorem ty3 : ty Tryz.prog 3 = some { desc := TypeDesc.int IntKind.i64, size := 1, bytes := 8, zero := Value.int IntKind.i64 (0) } := by kernel_rfl
theorem ty4 : ty Tryz.prog 4 = some { desc := TypeDesc.bool, size := 1, bytes := 1, zero := Value.bool false } := by kernel_rfl
theorem ty5 : ty Tryz.prog 5 = some { desc := TypeDesc.int IntKind.u8, size := 1, bytes := 1, zero := Value.int IntKind.u8 (0) } := by kernel_rfl
theorem ty6 : ty Tryz.prog 6 = some { desc := TypeDesc.int IntKind.u8, size := 1, bytes := 1, zero := Value.int IntKind.u8 (0) } := by kernel_rfl
theorem ty9 : ty Tryz.prog 9 = some { desc := TypeDesc.string, size := 1, bytes := 16, zero := Value.string { data := #[] } } := by kernel_rfl
theorem ty10 : ty Tryz.prog 10 = some { desc := TypeDesc.string, size := 1, bytes := 16, zero := Value.string { data := #[] } } := by kernel_rfl
theorem ty11 : ty Tryz.prog 11 = some { desc := TypeDesc.string, size := 1, bytes := 16, zero := Value.string { data := #[] } } := by kernel_rfl
theorem ty12 : ty Tryz.prog 12 = some { desc := TypeDesc.int IntKind.u64, size := 1, bytes := 8, zero := Value.int IntKind.u64 (0) } := by kernel_rfl
theorem ty15 : ty Tryz.prog 15 = some { desc := TypeDesc.pointer 153, size := 1, bytes := 8, zero := Value.pointer none } := by kernel_rfl
theorem ty16 : ty Tryz.prog 16 = some { desc := TypeDesc.pointer 156, size := 1, bytes := 8, zero := Value.pointer none } := by kernel_rfl
theorem ty17 : ty Tryz.prog 17 = some { desc := TypeDesc.pointer 164, size := 1, bytes := 8, zero := Value.pointer none } := by kernel_rfl
theorem ty21 : ty Tryz.prog 21 = some { desc := TypeDesc.int IntKind.i32, size := 1, bytes := 4, zero := Value.int IntKind.i32 (0) } := by kernel_rfl
theorem ty22 : ty Tryz.prog 22 = some { desc := TypeDesc.slice 49, size := 1, bytes := 24, zero := Value.slice none 0 0 } := by kernel_rfl
theorem ty23 : ty Tryz.prog 23 = some { desc := TypeDesc.struct { toList := [{ name := "Labels", type := 3, offset := 0, embedded := false, tag := "", pkgPath := "", byteOffset := 0 }, { name := "States", type := 3, offset := 1, embedded := false, tag := "", pkgPath := "", byteOffset := 8 }, { name := "Edges", type := 22, offset := 2, embedded := false, tag := "", pkgPath := "", byteOffset := 16 }] }, size := 3, bytes := 40, zero := Value.agg #[Value.int IntKind.i64 (0), Value.int IntKind.i64 (0), Value.slice none 0 0] } := by kernel_rfl
theorem ty24 : ty Tryz.prog 24 = some { desc := TypeDesc.struct { toList := [{ name := "Labels", type := 3, offset := 0, embedded := false, tag := "", pkgPath := "", byteOffset := 0 }, { name := "States", type := 3, offset := 1, embedded := false, tag := "", pkgPath := "", byteOffset := 8 }, { name := "Edges", type := 22, offset := 2, embedded := false, tag := "", pkgPath := "", byteOffset := 16 }] }, size := 3, bytes := 40, zero := Value.agg #[Value.int IntKind.i64 (0), Value.int IntKind.i64 (0), Value.slice none 0 0] } := by kernel_rfl
theorem ty27 : ty Tryz.prog 27 = some { desc := TypeDesc.slice 3, size := 1, bytes := 24, zero := Value.slice none 0 0 } := by kernel_rfl
theorem ty28 : ty Tryz.prog 28 = some { desc := TypeDesc.int IntKind.i64, size := 1, bytes := 8, zero := Value.int IntKind.i64 (0) } := by kernel_rfl
theorem ty31 : ty Tryz.prog 31 = some { desc := TypeDesc.struct { toList := [{ name := "Neg", type := 4, offset := 0, embedded := false, tag := "", pkgPath := "", byteOffset := 0 }, { name := "Mag", type := 9, offset := 1, embedded := false, tag := "", pkgPath := "", byteOffset := 8 }] }, size := 2, bytes := 24, zero := Value.agg #[Value.bool false, Value.string { data := #[] }] } := by kernel_rfl
theorem ty32 : ty Tryz.prog 32 = some { desc := TypeDesc.struct { toList := [{ name := "Neg", type := 4, offset := 0, embedded := false, tag := "", pkgPath := "", byteOffset := 0 }, { name := "Mag", type := 9, offset := 1, embedded := false, tag := "", pkgPath := "", byteOffset := 8 }] }, size := 2, bytes := 24, zero := Value.agg #[Value.bool false, Value.string { data := #[] }] } := by kernel_rfl
theorem ty35 : ty Tryz.prog 35 = some { desc := TypeDesc.slice 27, size := 1, bytes := 24, zero := Value.slice none 0 0 } := by kernel_rfl
theorem ty36 : ty Tryz.prog 36 = some { desc := TypeDesc.struct { toList := [{ name := "Letters", type := 3, offset := 0, embedded := false, tag := "", pkgPath := "", byteOffset := 0 }, { name := "Next", type := 35, offset := 1, embedded := false, tag := "", pkgPath := "", byteOffset := 8 }] }, size := 2, bytes := 32, zero := Value.agg #[Value.int IntKind.i64 (0), Value.slice none 0 0] } := by kernel_rfl
theorem ty37 : ty Tryz.prog 37 = some { desc := TypeDesc.struct { toList := [{ name := "Letters", type := 3, offset := 0, embedded := false, tag := "", pkgPath := "", byteOffset := 0 }, { name := "Next", type := 35, offset := 1, embedded := false, tag := "", pkgPath := "", byteOffset := 8 }] }, size := 2, bytes := 32, zero := Value.agg #[Value.int IntKind.i64 (0), Value.slice none 0 0] } := by kernel_rfl
theorem ty48 : ty Tryz.prog 48 = some { desc := TypeDesc.struct { toList := [{ name := "From", type := 3, offset := 0, embedded := false, tag := "", pkgPath := "", byteOffset := 0 }, { name := "Label", type := 3, offset := 1, embedded := false, tag := "", pkgPath := "", byteOffset := 8 }, { name := "To", type := 3, offset := 2, embedded := false, tag := "", pkgPath := "", byteOffset := 16 }] }, size := 3, bytes := 24, zero := Value.agg { toList := [Value.int IntKind.i64 (0), Value.int IntKind.i64 (0), Value.int IntKind.i64 (0)] } } := by kernel_rfl
theorem ty49 : ty Tryz.prog 49 = some { desc := TypeDesc.struct { toList := [{ name := "From", type := 3, offset := 0, embedded := false, tag := "", pkgPath := "", byteOffset := 0 }, { name := "Label", type := 3, offset := 1, embedded := false, tag := "", pkgPath := "", byteOffset := 8 }, { name := "To", type := 3, offset := 2, embedded := false, tag := "", pkgPath := "", byteOffset := 16 }] }, size := 3, bytes := 24, zero := Value.agg { toList := [Value.int IntKind.i64 (0), Value.int IntKind.i64 (0), Value.int IntKind.i64 (0)] } } := by kernel_rfl
theorem ty51 : ty Tryz.prog 51 = some { desc := TypeDesc.slice 4, size := 1, bytes := 24, zero := Value.slice none 0 0 } := by kernel_rfl
theorem ty53 : ty Tryz.prog 53 = some { desc := TypeDesc.slice 32, size := 1, bytes := 24, zero := Value.slice none 0 0 } := by kernel_rfl
theorem ty63 : ty Tryz.prog 63 = some { desc := TypeDesc.func #[49] #[27] false, size := 1, bytes := 8, zero := Value.nilFunc } := by kernel_rfl
theorem ty64 : ty Tryz.prog 64 = some { desc := TypeDesc.int IntKind.u64, size := 1, bytes := 8, zero := Value.int IntKind.u64 (0) } := by kernel_rfl
theorem ty66 : ty Tryz.prog 66 = some { desc := TypeDesc.int IntKind.u32, size := 1, bytes := 4, zero := Value.int IntKind.u32 (0) } := by kernel_rfl
theorem ty67 : ty Tryz.prog 67 = some { desc := TypeDesc.int IntKind.u64, size := 1, bytes := 8, zero := Value.int IntKind.u64 (0) } := by kernel_rfl
theorem ty68 : ty Tryz.prog 68 = some { desc := TypeDesc.slice 66, size := 1, bytes := 24, zero := Value.slice none 0 0 } := by kernel_rfl
theorem ty69 : ty Tryz.prog 69 = some { desc := TypeDesc.slice 66, size := 1, bytes := 24, zero := Value.slice none 0 0 } := by kernel_rfl
theorem ty80 : ty Tryz.prog 80 = some { desc := TypeDesc.map 9 3, size := 1, bytes := 8, zero := Value.map none } := by kernel_rfl
theorem ty84 : ty Tryz.prog 84 = some { desc := TypeDesc.slice 5, size := 1, bytes := 24, zero := Value.slice none 0 0 } := by kernel_rfl
theorem ty85 : ty Tryz.prog 85 = some { desc := TypeDesc.array 8 5, size := 8, bytes := 8, zero := Value.agg { toList := [Value.int IntKind.u8 (0), Value.int IntKind.u8 (0), Value.int IntKind.u8 (0), Value.int IntKind.u8 (0), Value.int IntKind.u8 (0), Value.int IntKind.u8 (0), Value.int IntKind.u8 (0), Value.int IntKind.u8 (0)] } } := by kernel_rfl
theorem ty96 : ty Tryz.prog 96 = some { desc := TypeDesc.pointer 98, size := 1, bytes := 8, zero := Value.pointer none } := by kernel_rfl
theorem ty97 : ty Tryz.prog 97 = some { desc := TypeDesc.struct { toList := [{ name := "addr", type := 96, offset := 0, embedded := false, tag := "", pkgPath := "strings", byteOffset := 0 }, { name := "buf", type := 84, offset := 1, embedded := false, tag := "", pkgPath := "strings", byteOffset := 8 }] }, size := 2, bytes := 32, zero := Value.agg #[Value.pointer none, Value.slice none 0 0] } := by kernel_rfl
theorem ty98 : ty Tryz.prog 98 = some { desc := TypeDesc.struct { toList := [{ name := "addr", type := 96, offset := 0, embedded := false, tag := "", pkgPath := "strings", byteOffset := 0 }, { name := "buf", type := 84, offset := 1, embedded := false, tag := "", pkgPath := "strings", byteOffset := 8 }] }, size := 2, bytes := 32, zero := Value.agg #[Value.pointer none, Value.slice none 0 0] } := by kernel_rfl
theorem ty108 : ty Tryz.prog 108 = some { desc := TypeDesc.pointer 5, size := 1, bytes := 8, zero := Value.pointer none } := by kernel_rfl
theorem ty129 : ty Tryz.prog 129 = some { desc := TypeDesc.int IntKind.i64, size := 1, bytes := 8, zero := Value.int IntKind.i64 (0) } := by kernel_rfl
theorem ty139 : ty Tryz.prog 139 = some { desc := TypeDesc.array 20 64, size := 20, bytes := 160, zero := Value.agg { toList := [Value.int IntKind.u64 (0), Value.int IntKind.u64 (0), Value.int IntKind.u64 (0), Value.int IntKind.u64 (0), Value.int IntKind.u64 (0), Value.int IntKind.u64 (0), Value.int IntKind.u64 (0), Value.int IntKind.u64 (0), Value.int IntKind.u64 (0), Value.int IntKind.u64 (0), Value.int IntKind.u64 (0), Value.int IntKind.u64 (0), Value.int IntKind.u64 (0), Value.int IntKind.u64 (0), Value.int IntKind.u64 (0), Value.int IntKind.u64 (0), Value.int IntKind.u64 (0), Value.int IntKind.u64 (0), Value.int IntKind.u64 (0), Value.int IntKind.u64 (0)] } } := by kernel_rfl
theorem ty141 : ty Tryz.prog 141 = some { desc := TypeDesc.int IntKind.u64, size := 1, bytes := 8, zero := Value.int IntKind.u64 (0) } := by kernel_rfl
theorem ty145 : ty Tryz.prog 145 = some { desc := TypeDesc.pointer 3, size := 1, bytes := 8, zero := Value.pointer none } := by kernel_rfl
theorem ty147 : ty Tryz.prog 147 = some { desc := TypeDesc.pointer 141, size := 1, bytes := 8, zero := Value.pointer none } := by kernel_rfl
theorem ty154 : ty Tryz.prog 154 = some { desc := TypeDesc.array 0 16, size := 0, bytes := 0, zero := Value.agg #[] } := by kernel_rfl
theorem ty158 : ty Tryz.prog 158 = some { desc := TypeDesc.int IntKind.u8, size := 1, bytes := 1, zero := Value.int IntKind.u8 (0) } := by kernel_rfl
theorem ty159 : ty Tryz.prog 159 = some { desc := TypeDesc.int IntKind.u8, size := 1, bytes := 1, zero := Value.int IntKind.u8 (0) } := by kernel_rfl
theorem ty161 : ty Tryz.prog 161 = some { desc := TypeDesc.int IntKind.i32, size := 1, bytes := 4, zero := Value.int IntKind.i32 (0) } := by kernel_rfl
theorem ty162 : ty Tryz.prog 162 = some { desc := TypeDesc.int IntKind.i32, size := 1, bytes := 4, zero := Value.int IntKind.i32 (0) } := by kernel_rfl
attribute [go_sem] ty2 ty3 ty4 ty5 ty6 ty9 ty10 ty11 ty12 ty15 ty16 ty17 ty21 ty22 ty23 ty24 ty27 ty28 ty31 ty32 ty35 ty36 ty37 ty48 ty49 ty51 ty53 ty63 ty64 ty66 ty67 ty68 ty69 ty80 ty84 ty85 ty96 ty97 ty98 ty108 ty129 ty139 ty141 ty145 ty147 ty154 ty158 ty159 ty161 ty162
theorem follows : Tryz.prog.follows .mixedOrders = true := by kernel_rfl
theorem fo24_0 : fieldOf Tryz.prog 24 0 = some (0, { desc := TypeDesc.int IntKind.i64, size := 1, bytes := 8, zero := Value.int IntKind.i64 (0) }) := by kernel_rfl
theorem fo24_1 : fieldOf Tryz.prog 24 1 = some (1, { desc := TypeDesc.int IntKind.i64, size := 1, bytes := 8, zero := Value.int IntKind.i64 (0) }) := by kernel_rfl
theorem fo24_2 : fieldOf Tryz.prog 24 2 = some (2, { desc := TypeDesc.slice 49, size := 1, bytes := 24, zero := Value.slice none 0 0 }) := by kernel_rfl
theorem fo32_0 : fieldOf Tryz.prog 32 0 = some (0, { desc := TypeDesc.bool, size := 1, bytes := 1, zero := Value.bool false }) := by kernel_rfl
theorem fo32_1 : fieldOf Tryz.prog 32 1 = some (1, { desc := TypeDesc.string, size := 1, bytes := 16, zero := Value.string { data := #[] } }) := by kernel_rfl
theorem fo37_0 : fieldOf Tryz.prog 37 0 = some (0, { desc := TypeDesc.int IntKind.i64, size := 1, bytes := 8, zero := Value.int IntKind.i64 (0) }) := by kernel_rfl
theorem fo37_1 : fieldOf Tryz.prog 37 1 = some (1, { desc := TypeDesc.slice 27, size := 1, bytes := 24, zero := Value.slice none 0 0 }) := by kernel_rfl
theorem fo49_0 : fieldOf Tryz.prog 49 0 = some (0, { desc := TypeDesc.int IntKind.i64, size := 1, bytes := 8, zero := Value.int IntKind.i64 (0) }) := by kernel_rfl
theorem fo49_1 : fieldOf Tryz.prog 49 1 = some (1, { desc := TypeDesc.int IntKind.i64, size := 1, bytes := 8, zero := Value.int IntKind.i64 (0) }) := by kernel_rfl
theorem fo49_2 : fieldOf Tryz.prog 49 2 = some (2, { desc := TypeDesc.int IntKind.i64, size := 1, bytes := 8, zero := Value.int IntKind.i64 (0) }) := by kernel_rfl
theorem fo98_1 : fieldOf Tryz.prog 98 1 = some (1, { desc := TypeDesc.slice 5, size := 1, bytes := 24, zero := Value.slice none 0 0 }) := by kernel_rfl
theorem es22 : elemSize Tryz.prog 22 = some 3 := by kernel_rfl
theorem es27 : elemSize Tryz.prog 27 = some 1 := by kernel_rfl
theorem es35 : elemSize Tryz.prog 35 = some 1 := by kernel_rfl
theorem es51 : elemSize Tryz.prog 51 = some 1 := by kernel_rfl
theorem es53 : elemSize Tryz.prog 53 = some 2 := by kernel_rfl
theorem es69 : elemSize Tryz.prog 69 = some 1 := by kernel_rfl
theorem es84 : elemSize Tryz.prog 84 = some 1 := by kernel_rfl
theorem es85 : elemSize Tryz.prog 85 = some 1 := by kernel_rfl
theorem hk32 (x0 : Bool) (x1 : List UInt8) : hkey Tryz.prog 5 32 [HV.bool x0, HV.str x1] = some [Lit.bool x0, Lit.string x1] := by kernel_rfl
theorem hc32 : Tryz.prog.eqGuardType Tryz.prog.depth 32 = false ∧ Tryz.prog.keyTypeAt 5 32 = true ∧ structT Tryz.prog 32 = true := ⟨by kernel_rfl, by kernel_rfl, by kernel_rfl⟩
theorem hq32 (x y : Bool × List UInt8) : x = y ↔ [Lit.bool x.1, Lit.string x.2] = [Lit.bool y.1, Lit.string y.2] := by simp [Prod.ext_iff, and_assoc]
end Go.AW
namespace Go.AW
open Go
theorem cnt_next {i n : Nat} (h : n ≤ 9223372036854775807) (hi : i < n) : IntKind.wrap .i64 ((i : Int) + 1) = ((i + 1 : Nat) : Int) := by
 rw [w64 (by omega) (by omega)]; omega
end Go.AW

namespace Go.Proofs
open Go
def Tryz.sortI_ren : Go.Shelf.Ren := ⟨fun | 5 => 69 | 8 => 78 | 7 => 77 | 19 => 93 | 20 => 94 | 10 => 84 | 11 => 85 | 12 => 86 | 13 => 87 | 14 => 88 | 15 => 89 | 16 => 90 | 17 => 91 | 18 => 92 | 30 => 99 | 31 => 100 | 32 => 101 | 33 => 102 | 34 => 103 | 35 => 73 | 40 => 106 | n => n, fun | 23 => 27 | 25 => 3 | 3 => 3 | 32 => 67 | 22 => 27 | 0 => 0 | 44 => 66 | 46 => 64 | 4 => 4 | 36 => 130 | 35 => 129 | 41 => 82 | 5 => 5 | 9 => 9 | 53 => 141 | 57 => 145 | 63 => 147 | 64 => 148 | n => n, fun | n => n⟩
theorem Tryz.sortI : Go.Proofs.SlLaysM.n5 Tryz.prog Tryz.sortI_ren where
 mixed := by kernel_rfl
 f5 := ⟨"slices.Sort[[]int,int]", by decide, Tryz.func69.trans (congrArg some (by kernel_rfl))⟩
 f7 := ⟨"slices.pdqsortOrdered[int]", by decide, Tryz.func77.trans (congrArg some (by kernel_rfl))⟩
 f8 := Tryz.func78.trans (congrArg some (by kernel_rfl))
 f10 := ⟨"slices.insertionSortOrdered[int]", by decide, Tryz.func84.trans (congrArg some (by kernel_rfl))⟩
 f11 := ⟨"slices.heapSortOrdered[int]", by decide, Tryz.func85.trans (congrArg some (by kernel_rfl))⟩
 f12 := ⟨"slices.breakPatternsOrdered[int]", by decide, Tryz.func86.trans (congrArg some (by kernel_rfl))⟩
 f13 := ⟨"slices.choosePivotOrdered[int]", by decide, Tryz.func87.trans (congrArg some (by kernel_rfl))⟩
 f14 := ⟨"slices.reverseRangeOrdered[int]", by decide, Tryz.func88.trans (congrArg some (by kernel_rfl))⟩
 f15 := ⟨"slices.partialInsertionSortOrdered[int]", by decide, Tryz.func89.trans (congrArg some (by kernel_rfl))⟩
 f16 := ⟨"cmp.Less[int]", by decide, Tryz.func90.trans (congrArg some (by kernel_rfl))⟩
 f17 := ⟨"slices.partitionEqualOrdered[int]", by decide, Tryz.func91.trans (congrArg some (by kernel_rfl))⟩
 f18 := ⟨"slices.partitionOrdered[int]", by decide, Tryz.func92.trans (congrArg some (by kernel_rfl))⟩
 f19 := Tryz.func93.trans (congrArg some (by kernel_rfl))
 f20 := Tryz.func94.trans (congrArg some (by kernel_rfl))
 f30 := ⟨"slices.siftDownOrdered[int]", by decide, Tryz.func99.trans (congrArg some (by kernel_rfl))⟩
 f31 := Tryz.func100.trans (congrArg some (by kernel_rfl))
 f32 := Tryz.func101.trans (congrArg some (by kernel_rfl))
 f33 := ⟨"slices.medianAdjacentOrdered[int]", by decide, Tryz.func102.trans (congrArg some (by kernel_rfl))⟩
 f34 := ⟨"slices.medianOrdered[int]", by decide, Tryz.func103.trans (congrArg some (by kernel_rfl))⟩
 f35 := ⟨"cmp.isNaN[int]", by decide, Tryz.func73.trans (congrArg some (by kernel_rfl))⟩
 f40 := ⟨"slices.order2Ordered[int]", by decide, Tryz.func106.trans (congrArg some (by kernel_rfl))⟩
 t0 := Tryz.underlying0
 a0 := Tryz.isAgg0
 z0 := Tryz.sizeOf0
 v0 := Tryz.zeroValue0
 t3 := Tryz.underlying3
 a3 := Tryz.isAgg3
 z3 := Tryz.sizeOf3
 v3 := Tryz.zeroValue3
 t4 := Tryz.underlying4
 a4 := Tryz.isAgg4
 z4 := Tryz.sizeOf4
 v4 := Tryz.zeroValue4
 t5 := Tryz.underlying5
 a5 := Tryz.isAgg5
 z5 := Tryz.sizeOf5
 v5 := Tryz.zeroValue5
 t9 := Tryz.underlying9
 a9 := Tryz.isAgg9
 z9 := Tryz.sizeOf9
 v9 := Tryz.zeroValue9
 t22 := Tryz.underlying27
 a22 := Tryz.isAgg27
 z22 := Tryz.sizeOf27
 v22 := Tryz.zeroValue27
 t23 := Tryz.underlying27
 a23 := Tryz.isAgg27
 z23 := Tryz.sizeOf27
 v23 := Tryz.zeroValue27
 t25 := Tryz.underlying3
 a25 := Tryz.isAgg3
 z25 := Tryz.sizeOf3
 v25 := Tryz.zeroValue3
 t32 := Tryz.underlying67
 a32 := Tryz.isAgg67
 z32 := Tryz.sizeOf67
 v32 := Tryz.zeroValue67
 t35 := Tryz.underlying129
 a35 := Tryz.isAgg129
 z35 := Tryz.sizeOf129
 v35 := Tryz.zeroValue129
 t36 := Tryz.underlying130
 a36 := Tryz.isAgg130
 z36 := Tryz.sizeOf130
 v36 := Tryz.zeroValue130
 t41 := Tryz.underlying82
 a41 := Tryz.isAgg82
 z41 := Tryz.sizeOf82
 v41 := Tryz.zeroValue82
 t44 := Tryz.underlying66
 a44 := Tryz.isAgg66
 z44 := Tryz.sizeOf66
 v44 := Tryz.zeroValue66
 t46 := Tryz.underlying64
 a46 := Tryz.isAgg64
 z46 := Tryz.sizeOf64
 v46 := Tryz.zeroValue64
 t53 := Tryz.underlying141
 a53 := Tryz.isAgg141
 z53 := Tryz.sizeOf141
 v53 := Tryz.zeroValue141
 t57 := Tryz.underlying145
 a57 := Tryz.isAgg145
 z57 := Tryz.sizeOf145
 v57 := Tryz.zeroValue145
 t63 := Tryz.underlying147
 a63 := Tryz.isAgg147
 z63 := Tryz.sizeOf147
 v63 := Tryz.zeroValue147
 t64 := Tryz.underlying148
 a64 := Tryz.isAgg148
 z64 := Tryz.sizeOf148
 v64 := Tryz.zeroValue148
end Go.Proofs
namespace Go.AW
open Go Go.Proofs Go.Sort
theorem repL_map {α : Type} {w : World} {μ : Mu} {f : α → HV} {g : α → Value} : ∀ {l : List α}, RepL w μ (l.map f) (l.map g) ↔ ∀ x ∈ l, Rep w μ (f x) (g x)
 | [] => by simp [RepL]
 | a :: l => by
  simp only [List.map_cons, RepL, List.mem_cons, forall_eq_or_imp]
  constructor
  ·rintro ⟨x, xs, e, h1, h2⟩
   cases e
   exact ⟨h1, repL_map.1 h2⟩
  ·exact fun ⟨h1, h2⟩ => ⟨_, _, rfl, h1, repL_map.2 h2⟩
theorem sorted_world {α : Type} [Inhabited α] {enc : α → Value} {f : α → HV} (hf1 : ∀ x, (f x).one = true) {w : World} {μ : Mu} {H : Heap} {id ver b k : Nat} {e : TypeId} {l d : List α} (hs : SR w μ H) (hg : hget H id = some (ver, .arr k e (l.map f)))
  (hl : μ.loc id = some (ver, some b)) (hrep : ∀ x ∈ l, Rep w μ (f x) (enc x)) (hor : OR w μ (.arr k e (l.map f)) (some b)) (hv : ∀ vs, RepL w μ (l.map f) vs → vs = l.map enc) (hp : d.Perm l) (n : Nat) (os : Array Obj) :
  SR (grow (putRow enc (Sort.ahead w n) b 0 d.toArray) os) μ (hset H id ver (.arr k e (d.map f))) ∧ Evo w μ (grow (putRow enc (Sort.ahead w n) b 0 d.toArray) os) μ := by
 obtain ⟨h0, cur, vs, rest, hrow, hcl, hrl⟩ := hor
 have hvs := hv vs hrl
 subst hvs
 have hlen : d.length = l.length := hp.length_eq
 have hcsz : cur.size = l.length + rest.length := by rw [← Array.length_toList, hcl]; simp
 -- the world with the row put
 have hb := hrow.lt
 obtain ⟨lo, hi, hbk, hfr⟩ := hrow
 have hbk' : (putRow enc (Sort.ahead w n) b 0 d.toArray).heap[b]? = some (.cells (putCells enc 0 d.toArray cur) e (lo, hi)) := by
  show (w.heap.modify b _)[b]? = _
  rw [Array.getElem?_modify, if_pos rfl, hbk]
  rfl
 have hcur' : (putCells enc 0 d.toArray cur).toList = d.map enc ++ rest := by
  apply List.ext_getElem?
  intro i
  rw [Array.getElem?_toList]
  simp only [putCells, Array.getElem?_mapIdx]
  have hc : cur[i]? = (l.map enc ++ rest)[i]? := by rw [← hcl, Array.getElem?_toList]
  rw [hc]
  rcases Nat.lt_or_ge i d.length with hi | hi
  ·rw [List.getElem?_append_left (by simp; omega), List.getElem?_append_left (by simpa using hi), List.getElem?_map, List.getElem?_map, List.getElem?_eq_getElem (by omega : i < l.length), List.getElem?_eq_getElem hi]
   simp only [Option.map_some]
   rw [if_pos ⟨Nat.zero_le _, by simpa using hi⟩]
   simp [hi]
  ·rw [List.getElem?_append_right (by simp; omega), List.getElem?_append_right (by simpa using hi)]
   simp only [List.length_map, hlen]
   cases rest[i - l.length]? with
   | none => rfl
   | some x =>
    simp only [Option.map_some]
    rw [if_neg (by simp; omega)]
 have hsz1 : (putRow enc (Sort.ahead w n) b 0 d.toArray).heap.size = w.heap.size := by rw [size_putRow]; rfl
 have hrow1 : Row (putRow enc (Sort.ahead w n) b 0 d.toArray) b (putCells enc 0 d.toArray cur) e := ⟨lo, hi, hbk', by simpa [putCells] using hfr⟩
 have hold : ∀ b', b' ≠ b → (putRow enc (Sort.ahead w n) b 0 d.toArray).heap[b']? = w.heap[b']? := fun b' hne => by
  show (w.heap.modify b _)[b']? = _
  rw [Array.getElem?_modify, if_neg (fun e => hne e.symm)]
 obtain ⟨h1, h2⟩ := hs.updArr (cs' := d.map f) (w' := putRow enc (Sort.ahead w n) b 0 d.toArray) hg hl ⟨rfl, rfl, rfl⟩ hsz1 hold ⟨lo, hi, hbk, hfr⟩ hrow1 (by simp [putCells]) fun E => by
  refine ⟨fun c hc => ?_, _, d.map enc, rest, hrow1, hcur', repL_map.2 fun x hx => Rep.evo E hs.ok _ _ (hrep x (hp.mem_iff.1 hx))⟩
  obtain ⟨x, _, rfl⟩ := List.mem_map.1 hc
  exact hf1 x
 have g : Grow (putRow enc (Sort.ahead w n) b 0 d.toArray) (grow (putRow enc (Sort.ahead w n) b 0 d.toArray) os) :=
  ⟨⟨rfl, rfl, rfl⟩, by rw [size_grow]; omega, fun b' hb' => by
   show (_ ++ os)[b']? = _
   rw [Array.getElem?_append_left hb']⟩
 exact ⟨h1.grow g, h2.trans (Evo.grow h1 g)⟩
theorem holds_row {α : Type} [Inhabited α] {enc : α → Value} {w : World} {b : Nat} {cur : Array Value} {e : TypeId} {l : List α} {rest : List Value} (hrow : Row w b cur e) (hcl : cur.toList = l.map enc ++ rest) : Holds enc w b 0 l.toArray := by
 intro j hj
 have hj' : j < l.length := by simpa using hj
 have hc : cur[j]? = some (enc l[j]) := by
  rw [← Array.getElem?_toList, hcl, List.getElem?_append_left (by simpa using hj'), List.getElem?_map, List.getElem?_eq_getElem hj']
  rfl
 refine ⟨?_, ?_⟩
 ·rw [Nat.zero_add, hrow.cell, hc]
  simp [hj']
 ·rw [Nat.zero_add]
  exact hrow.free (Array.getElem?_eq_some_iff.1 hc).1
theorem repL_ints {w : World} {μ : Mu} : ∀ {l : List Int} {vs : List Value}, RepL w μ (l.map (.int .i64)) vs → vs = l.map (Value.int .i64) ∧ ∀ x ∈ l, Rep w μ (.int .i64 x) (Value.int .i64 x)
 | [], vs, h => by simp only [List.map_nil, RepL] at h; subst h; exact ⟨rfl, by simp⟩
 | a :: l, vs, ⟨x, xs, e, h1, h2⟩ => by
  obtain ⟨h3, h4⟩ := repL_ints h2
  obtain ⟨rfl, hl⟩ := h1
  subst e
  rw [h3]
  exact ⟨rfl, by simpa using ⟨⟨rfl, hl⟩, h4⟩⟩
theorem w179 {H : Heap} {id ver : Nat} {e : TypeId} {l : List Int} {K : HV → Heap → Prop} (hg : hget H id = some (ver, .arr 1 e (l.map (.int .i64)))) (hlen : l.length < 4611686018427387904)
  (hK : K (.tup []) (hset H id ver (.arr 1 e ((sortI l).map (.int .i64))))) : ACall Tryz.prog 69 [.ar id ver 1 0 l.length] H K := by
 refine ⟨enters' Tryz.func69 rfl rfl, fun μ w vs hs hr _ => ?_⟩
 obtain ⟨x, xs, rfl, hr, hn⟩ := hr
 cases hn
 obtain ⟨lo, hl, hor⟩ := hs.has _ _ _ hg
 rcases hr with ⟨lo', hl', h⟩ | ⟨hd, _⟩
 ·rw [hl] at hl'
  cases hl'
  rcases h with ⟨rfl, rfl, h0, _⟩ | ⟨b, cap, cur, e', rfl, rfl, hcap, _, hrow, hsz⟩
  ·have h0' : l = [] := List.eq_nil_of_length_eq_zero h0
   subst h0'
   refine (AnyM.slices_Sort_int_none Tryz.sortI none 0 w).mono ?_
   rintro e' w' ⟨rfl, rfl⟩
   refine ⟨_, .tup [], _, μ, rfl, hK, ?_, ⟨[], rfl, rfl⟩, Evo.refl _ _⟩
   have : (sortI []).map (HV.int .i64) = [] := by simp [sortI]
   rw [this]
   exact hs.same hg
  ·have hor' := hor
   obtain ⟨h0, cur', vs', rest, hrow', hcl, hrl⟩ := hor
   obtain ⟨hvs, hreps⟩ := repL_ints hrl
   subst hvs
   refine (AnyM.slices_Sort_int Tryz.sortI b 0 cap l w (holds_row hrow' hcl) hrow'.lt hlen).mono ?_
   rintro e2 w' ⟨rfl, n, os, rfl⟩
   obtain ⟨h1, h2⟩ := sorted_world (f := HV.int .i64) (fun _ => rfl) hs hg hl hreps hor' (fun vs hv => (repL_ints hv).1) (List.mergeSort_perm l _) n os
   exact ⟨_, .tup [], _, μ, rfl, hK, h1, ⟨[], rfl, rfl⟩, h2⟩
 ·exact absurd hl (hd.2 lo)
theorem sorts179 : SortsI Tryz.prog 69 := by
 refine ⟨fun _ _ _ _ _ _ hg hl hK => w179 hg hl hK, fun H K hK => ⟨enters' Tryz.func69 rfl rfl, fun μ w vs hs hr _ => ?_⟩⟩
 obtain ⟨x, xs, rfl, hr, hn⟩ := hr
 cases hn
 cases hr
 refine (AnyM.slices_Sort_int_none Tryz.sortI none 0 w).mono ?_
 rintro e' w' ⟨rfl, rfl⟩
 exact ⟨_, .tup [], _, μ, rfl, hK, hs, ⟨[], rfl, rfl⟩, Evo.refl _ _⟩
end Go.AW
namespace Go.AW
open Go Go.Proofs Go.Sort Go.Lib
theorem put_world {α : Type} [Inhabited α] {enc : α → Value} {f : α → HV} (hf1 : ∀ x, (f x).one = true) {w : World} {μ : Mu} {H : Heap} {id ver b k : Nat} {e : TypeId} {l d : List α} (hs : SR w μ H) (hg : hget H id = some (ver, .arr k e (l.map f)))
  (hl : μ.loc id = some (ver, some b)) (hrep : ∀ x ∈ d, Rep w μ (f x) (enc x)) (hor : OR w μ (.arr k e (l.map f)) (some b)) (hv : ∀ vs, RepL w μ (l.map f) vs → vs = l.map enc) (hlen : d.length = l.length) (n : Nat) :
  SR (putRow enc (Sort.ahead w n) b 0 d.toArray) μ (hset H id ver (.arr k e (d.map f))) ∧ Evo w μ (putRow enc (Sort.ahead w n) b 0 d.toArray) μ := by
 obtain ⟨h0, cur, vs, rest, hrow, hcl, hrl⟩ := hor
 have hvs := hv vs hrl
 subst hvs
 have hcsz : cur.size = l.length + rest.length := by rw [← Array.length_toList, hcl]; simp
 obtain ⟨lo, hi, hbk, hfr⟩ := hrow
 have hbk' : (putRow enc (Sort.ahead w n) b 0 d.toArray).heap[b]? = some (.cells (putCells enc 0 d.toArray cur) e (lo, hi)) := by
  show (w.heap.modify b _)[b]? = _
  rw [Array.getElem?_modify, if_pos rfl, hbk]
  rfl
 have hcur' : (putCells enc 0 d.toArray cur).toList = d.map enc ++ rest := by
  apply List.ext_getElem?
  intro i
  rw [Array.getElem?_toList]
  simp only [putCells, Array.getElem?_mapIdx]
  have hc : cur[i]? = (l.map enc ++ rest)[i]? := by rw [← hcl, Array.getElem?_toList]
  rw [hc]
  rcases Nat.lt_or_ge i d.length with hi | hi
  ·rw [List.getElem?_append_left (by simp; omega), List.getElem?_append_left (by simpa using hi), List.getElem?_map, List.getElem?_map, List.getElem?_eq_getElem (by omega : i < l.length), List.getElem?_eq_getElem hi]
   simp only [Option.map_some]
   rw [if_pos ⟨Nat.zero_le _, by simpa using hi⟩]
   simp [hi]
  ·rw [List.getElem?_append_right (by simp; omega), List.getElem?_append_right (by simpa using hi)]
   simp only [List.length_map, hlen]
   cases rest[i - l.length]? with
   | none => rfl
   | some x =>
    simp only [Option.map_some]
    rw [if_neg (by simp; omega)]
 have hsz1 : (putRow enc (Sort.ahead w n) b 0 d.toArray).heap.size = w.heap.size := by rw [size_putRow]; rfl
 have hrow1 : Row (putRow enc (Sort.ahead w n) b 0 d.toArray) b (putCells enc 0 d.toArray cur) e := ⟨lo, hi, hbk', by simpa [putCells] using hfr⟩
 have hold : ∀ b', b' ≠ b → (putRow enc (Sort.ahead w n) b 0 d.toArray).heap[b']? = w.heap[b']? := fun b' hne => by
  show (w.heap.modify b _)[b']? = _
  rw [Array.getElem?_modify, if_neg (fun e => hne e.symm)]
 exact hs.updArr (cs' := d.map f) (w' := putRow enc (Sort.ahead w n) b 0 d.toArray) hg hl ⟨rfl, rfl, rfl⟩ hsz1 hold ⟨lo, hi, hbk, hfr⟩ hrow1 (by simp [putCells]) fun E => by
  refine ⟨fun c hc => ?_, _, d.map enc, rest, hrow1, hcur', repL_map.2 fun x hx => Rep.evo E hs.ok _ _ (hrep x hx)⟩
  obtain ⟨x, _, rfl⟩ := List.mem_map.1 hc
  exact hf1 x
end Go.AW
namespace Go.Proofs
open Go
def Tryz.compI_ren : Go.Shelf.Ren := ⟨fun | 20 => 70 | n => n, fun | 22 => 27 | 3 => 3 | 4 => 4 | 0 => 0 | n => n, fun | n => n⟩
theorem Tryz.compI : Go.Proofs.Lays2.n20 Tryz.prog Tryz.compI_ren where
 mixed := by kernel_rfl
 f20 := Tryz.func70.trans (congrArg some (by kernel_rfl))
 t0 := Tryz.underlying0
 a0 := Tryz.isAgg0
 z0 := Tryz.sizeOf0
 v0 := Tryz.zeroValue0
 t3 := Tryz.underlying3
 a3 := Tryz.isAgg3
 z3 := Tryz.sizeOf3
 v3 := Tryz.zeroValue3
 t4 := Tryz.underlying4
 a4 := Tryz.isAgg4
 z4 := Tryz.sizeOf4
 v4 := Tryz.zeroValue4
 t22 := Tryz.underlying27
 a22 := Tryz.isAgg27
 z22 := Tryz.sizeOf27
 v22 := Tryz.zeroValue27
 i3 := by kernel_rfl
end Go.Proofs
namespace Go.AW
open Go Go.Proofs Go.Sort Go.Lib
set_option linter.unusedVariables false
theorem c_sortI : SortsI Tryz.prog 69 := sorts179
theorem w180 {H : Heap} {id ver : Nat} {e : TypeId} {l : List Int} {K : HV → Heap → Prop} (hg : hget H id = some (ver, .arr 1 e (l.map (.int .i64))))
  (hK : K (.ar id ver 1 0 (compact_ l).length) (hset H id ver (.arr 1 e ((compact_ l ++ List.replicate (l.length - (compact_ l).length) 0).map (.int .i64))))) : ACall Tryz.prog 70 [.ar id ver 1 0 l.length] H K := by
 refine ⟨enters' Tryz.func70 rfl rfl, fun μ w vs hs hr _ => ?_⟩
 obtain ⟨x, xs, rfl, hr, hn⟩ := hr
 cases hn
 obtain ⟨lo, hl, hor⟩ := hs.has _ _ _ hg
 rcases hr with ⟨lo', hl', h⟩ | ⟨hd, _⟩
 ·rw [hl] at hl'
  cases hl'
  rcases h with ⟨rfl, rfl, h0, _⟩ | ⟨b, cap, cur, e', rfl, rfl, hcap, hcm, hrow, hsz⟩
  ·have hl0 := List.eq_nil_of_length_eq_zero h0
   subst hl0
   refine (Any.slices_Compact_int_empty Tryz.compI none 0 w).mono ?_
   rintro e2 w' ⟨rfl, rfl⟩
   refine ⟨_, .ar id ver 1 0 0, _, μ, rfl, hK, hs.reobj hg fun l hl hor => hor, .inl ⟨none, hl, .inl ⟨rfl, rfl, rfl, rfl⟩⟩, Evo.refl _ _⟩
  ·have hor' := hor
   obtain ⟨h0, cur', vs', rest, hrow', hcl, hrl⟩ := hor
   obtain ⟨hvs, hreps⟩ := repL_ints hrl
   subst hvs
   refine (Any.slices_Compact_int Tryz.compI b 0 cap l w (holds_row hrow' hcl) (by have := hcm; simp only [maxLen] at this; omega) hcap).mono ?_
   ·rintro e2 w' ⟨rfl, n, rfl⟩
    have hle := compact_le l
    have hlen : (compact_ l ++ List.replicate (l.length - (compact_ l).length) (0 : Int)).length = l.length := by simp; omega
    obtain ⟨h1, h2⟩ := put_world (f := HV.int .i64) (fun _ => rfl) hs hg hl (d := compact_ l ++ List.replicate (l.length - (compact_ l).length) 0) (fun x hx => by
     rcases List.mem_append.1 hx with hx | hx
     ·exact hreps x (compact_mem hx)
     ·rw [List.eq_of_mem_replicate hx]; exact ⟨rfl, rfl⟩) hor' (fun vs hv => (repL_ints hv).1) hlen n
    refine ⟨_, .ar id ver 1 0 (compact_ l).length, _, μ, rfl, hK, h1, .inl ⟨some b, hl, .inr ⟨b, cap, putCells (Value.int .i64) 0 (compact_ l ++ List.replicate (l.length - (compact_ l).length) 0).toArray cur, e', rfl, by simp, by omega, hcm, ?_, ?_⟩⟩, h2⟩
    ·obtain ⟨lo, hi, hbk, hfr⟩ := hrow
     refine ⟨lo, hi, ?_, by simpa [putCells] using hfr⟩
     show (w.heap.modify b _)[b]? = _
     rw [Array.getElem?_modify, if_pos rfl, hbk]
     rfl
    ·simp only [putCells, Array.size_mapIdx]; exact hsz
 ·exact absurd hl (hd.2 lo)
theorem c_compactI {H H' : Heap} {id ver n : Nat} {e : TypeId} {l : List Int} {K : HV → Heap → Prop} (hn : n = l.length) (hg : hget H id = some (ver, .arr 1 e (l.map (.int .i64)))) (hle : ∀ j x, hget H' j = some x → hget H j = some x) (hno : hget H' id = none)
  (hK : K (slE eInt (compact_ l)) H') : ACall Tryz.prog 70 [.ar id ver 1 0 n] H K := by
 subst hn
 have hlen := compact_le l
 refine ACall.freeze 2 [(id, ver, .arr 1 e ((compact_ l ++ List.replicate (l.length - (compact_ l).length) 0).map (.int .i64)))] H' (w180 hg ⟨fun j x hx => ?_, fun j x hx => ?_, ?_⟩)
 ·rw [hget_hset, if_neg (fun e => by rw [e, hno] at hx; cases hx)]
  exact hle j x hx
 ·simp only [hget] at hx
  split at hx
  ·rename_i e
   subst e
   cases hx
   exact ⟨by rw [hget_hset, if_pos rfl], hno⟩
  ·cases hx
 ·have : frz 2 [(id, ver, .arr 1 e ((compact_ l ++ List.replicate (l.length - (compact_ l).length) 0).map (.int .i64)))] (.ar id ver 1 0 (compact_ l).length) = slE eInt (compact_ l) := by
   have h0 : hget [(id, ver, AObj.arr 1 e ((compact_ l ++ List.replicate (l.length - (compact_ l).length) 0).map (.int .i64)))] id = some (ver, .arr 1 e ((compact_ l ++ List.replicate (l.length - (compact_ l).length) 0).map (.int .i64))) := by simp only [hget, if_true]
   rw [frz, h0]
   have h1 : ver = ver ∧ 0 + (compact_ l).length * 1 ≤ ((compact_ l ++ List.replicate (l.length - (compact_ l).length) (0 : Int)).map (HV.int .i64)).length := ⟨rfl, by simp⟩
   refine (if_pos h1).trans ?_
   rw [List.drop_zero, Nat.mul_one, List.map_append, List.take_left' (List.length_map _), List.map_map]
   rfl
  rw [this]
  exact hK
end Go.AW
namespace Go.Proofs
open Go
def Tryz.mul_ren : Go.Shelf.Ren := ⟨fun | 212 => 46 | 263 => 56 | 264 => 57 | n => n, fun | 46 => 67 | 51 => 66 | 146 => 92 | 53 => 64 | 148 => 94 | n => n, fun | n => n⟩
theorem Tryz.mul : Go.Proofs.Lays.n212 Tryz.prog Tryz.mul_ren where
 mixed := by kernel_rfl
 f212 := Tryz.func46.trans (congrArg some (by kernel_rfl))
 f263 := Tryz.func56.trans (congrArg some (by kernel_rfl))
 f264 := Tryz.func57.trans (congrArg some (by kernel_rfl))
 t46 := Tryz.underlying67
 a46 := Tryz.isAgg67
 z46 := Tryz.sizeOf67
 v46 := Tryz.zeroValue67
 t51 := Tryz.underlying66
 a51 := Tryz.isAgg66
 z51 := Tryz.sizeOf66
 v51 := Tryz.zeroValue66
 t53 := Tryz.underlying64
 a53 := Tryz.isAgg64
 z53 := Tryz.sizeOf64
 v53 := Tryz.zeroValue64
 t146 := Tryz.underlying92
 a146 := Tryz.isAgg92
 z146 := Tryz.sizeOf92
 v146 := Tryz.zeroValue92
 t148 := Tryz.underlying94
 a148 := Tryz.isAgg94
 z148 := Tryz.sizeOf94
 v148 := Tryz.zeroValue94
end Go.Proofs
namespace Go.AW
open Go Go.Proofs
def u64 (n : Nat) : HV := .int .u64 n
theorem mul1 (n : Nat) (hn : n ≤ 1000000) : Fresh Tryz.prog 46 [u64 1, u64 n] (.tup [u64 0, u64 n]) := by
 refine Pure.fresh ⟨enters' Tryz.func46 rfl rfl, fun μ w vs hs hr _ => ?_⟩ ⟨trivial, trivial, trivial⟩ rfl
 obtain ⟨x, xs, rfl, ⟨rfl, _⟩, y, ys, rfl, ⟨rfl, _⟩, hn'⟩ := hr
 cases hn'
 refine (Any.bits_Mul Tryz.mul 1 n (by omega) (by omega) w).mono ?_
 rintro e w' ⟨rfl, rfl⟩
 have e1 : 1 * n / 18446744073709551616 = 0 := by omega
 have e2 : 1 * n % 18446744073709551616 = n := by omega
 refine ⟨_, .tup [u64 0, u64 n], [], μ, by rw [e1, e2], ⟨rfl, ⟨trivial, trivial, trivial⟩, rfl⟩, hs, ⟨_, rfl, _, _, rfl, ⟨rfl, by decide⟩, _, _, rfl, ⟨rfl, ?_⟩, rfl⟩, Evo.refl _ _⟩
 simp only [Lit.wf, IntKind.min, IntKind.max, IntKind.signed, IntKind.bits, Bool.and_eq_true, decide_eq_true_eq]
 simp
 omega
theorem mul1' (n : Nat) (hn : n ≤ 1000000) : Pure Tryz.prog 46 [HV.int .u64 (IntKind.wrap .u64 ((([true] : List Bool).length : Int))), HV.int .u64 (IntKind.wrap .u64 (n : Int))] (· = .tup [HV.int .u64 0, HV.int .u64 n]) := by
 have e : IntKind.wrap .u64 (n : Int) = (n : Int) := by simp only [IntKind.wrap_u64]; omega
 rw [e]
 exact (mul1 n hn).pure
end Go.AW
namespace Go.AW
open Go
section
variable {P : Program} {ro : Option Nat} {N : Nat} {s : AS} {ops : Array Oper} {K : AS → Prop} {F : List Nat → AS → Prop} {L : List Nat}
theorem AOpI.mono {i : Nat} {G G' : AS → Prop} (h : AOpI P ro N ops i G s) (hg : ∀ s', G s' → G' s') : AOpI P ro N ops i G' s := fun w0 μ0 μ a w next Q hs hE hK =>
 h w0 μ0 μ a w next Q hs hE fun μ2 s2 a2 w2 hk hs2 hE2 => hK μ2 s2 a2 w2 (hg s2 hk) hs2 hE2
end
end Go.AW
namespace Go.AW
open Go
def rid (i : Nat) : Nat := (1000000 + i) * 1000 + 30
theorem rid_inj {i j : Nat} (h : rid i = rid j) : i = j := by unfold rid at h; omega
theorem hget_hd {id v : Nat} {o : AObj} {H : Heap} : hget ((id, v, o) :: H) id = some (v, o) := by simp [hget]
theorem hget_tl {id j v : Nat} {o : AObj} {H : Heap} (h : id ≠ j) : hget ((j, v, o) :: H) id = hget H id := by simp [hget, h]
theorem le_shadow {id v v' : Nat} {o o' : AObj} {H : Heap} : ∀ j x, hget ((id, v, o) :: H) j = some x → hget ((id, v, o) :: (id, v', o') :: H) j = some x := fun j x h => by
 by_cases e : j = id
 ·subst e; rw [hget_hd] at h ⊢; exact h
 ·rw [hget_tl e] at h ⊢; rw [hget_tl e]; exact h
abbrev Rws := List (Nat × List Int)
def rowsO : Nat → Rws → Heap
 | _, [] => []
 | k, (v, l) :: t => (rid k, v, .arr 1 3 (eInt.E l)) :: rowsO (k + 1) t
def hdr : Nat → Rws → List HV
 | _, [] => []
 | k, (v, l) :: t => .ar (rid k) v 1 0 l.length :: hdr (k + 1) t
theorem hdr_len : ∀ (k : Nat) (rs : Rws), (hdr k rs).length = rs.length
 | _, [] => rfl
 | k, (v, l) :: t => by simp [hdr, hdr_len (k + 1) t]
theorem hdr_app : ∀ (k : Nat) (rs : Rws) (v : Nat) (l : List Int), hdr k (rs ++ [(v, l)]) = hdr k rs ++ [.ar (rid (k + rs.length)) v 1 0 l.length]
 | _, [], _, _ => rfl
 | k, (v, l) :: t, v', l' => by
  simp only [List.cons_append, hdr, hdr_app (k + 1) t v' l', List.length_cons]
  rw [show k + 1 + t.length = k + (t.length + 1) by omega]
theorem hdr_get : ∀ {rs : Rws} (k : Nat) {i v : Nat} {l : List Int}, rs[i]? = some (v, l) → (hdr k rs)[i]? = some (.ar (rid (k + i)) v 1 0 l.length)
 | [], _, i, _, _, h => by simp at h
 | (v, l) :: t, k, 0, _, _, h => by
  simp at h
  obtain ⟨rfl, rfl⟩ := h
  simp [hdr]
 | (v, l) :: t, k, i + 1, _, _, h => by
  simp only [List.getElem?_cons_succ] at h
  have := hdr_get (k + 1) h
  simp only [hdr, List.getElem?_cons_succ, this]
  rw [show k + 1 + i = k + (i + 1) by omega]
theorem hget_rows : ∀ {rs : Rws} (k : Nat) {i v : Nat} {l : List Int}, rs[i]? = some (v, l) → hget (rowsO k rs) (rid (k + i)) = some (v, .arr 1 3 (eInt.E l))
 | [], _, i, _, _, h => by simp at h
 | (v, l) :: t, k, 0, _, _, h => by
  simp at h
  obtain ⟨rfl, rfl⟩ := h
  exact hget_hd
 | (v, l) :: t, k, i + 1, _, _, h => by
  simp only [List.getElem?_cons_succ] at h
  have := hget_rows (k + 1) h
  show hget ((rid k, v, _) :: rowsO (k + 1) t) (rid (k + (i + 1))) = _
  rw [hget_tl (fun e => by have := rid_inj e; omega), ← this, show k + 1 + i = k + (i + 1) by omega]
theorem hget_rows_no : ∀ (rs : Rws) (k : Nat) {id : Nat}, (∀ i, i < rs.length → id ≠ rid (k + i)) → hget (rowsO k rs) id = none
 | [], _, _, _ => rfl
 | (v, l) :: t, k, id, h => by
  show hget ((rid k, v, _) :: rowsO (k + 1) t) id = none
  rw [hget_tl (show id ≠ rid k from h 0 (by simp))]
  exact hget_rows_no t (k + 1) fun i hi => by
   have := h (i + 1) (by simp; omega)
   rwa [show k + (i + 1) = k + 1 + i by omega] at this
theorem leH_rows {H : Heap} : ∀ (rs : Rws) (k : Nat), (∀ i v l, rs[i]? = some (v, l) → hget H (rid (k + i)) = some (v, .arr 1 3 (eInt.E l))) → leH H (rowsO k rs)
 | [], _, _ => trivial
 | (v, l) :: t, k, h => ⟨h 0 v l rfl, leH_rows t (k + 1) fun i v' l' hi => by
  have := h (i + 1) v' l' (by simpa using hi)
  rwa [show k + (i + 1) = k + 1 + i by omega] at this⟩
theorem rows_le {rs : Rws} {v : Nat} {l : List Int} {H : Heap} (hH : ∀ i, hget H (rid i) = none) : ∀ id x, hget (rowsO 0 (rs ++ [(v, l)])) id = some x → hget ((rid rs.length, v, .arr 1 3 (eInt.E l)) :: (H ++ rowsO 0 rs)) id = some x := by
 refine leH_get (leH_rows _ 0 fun i v' l' hi => ?_)
 have happ : ∀ (A B : Heap) (id : Nat), hget A id = none → hget (A ++ B) id = hget B id := by
  intro A B id
  induction A with
  | nil => intro _; rfl
  | cons a A ih =>
   obtain ⟨j, u, o⟩ := a
   intro h
   by_cases e : id = j
   ·subst e; rw [hget_hd] at h; cases h
   ·rw [hget_tl e] at h
    rw [List.cons_append, hget_tl e]
    exact ih h
 rw [Nat.zero_add]
 by_cases hlt : i < rs.length
 ·rw [List.getElem?_append_left hlt] at hi
  rw [hget_tl (fun e => by have := rid_inj e; omega), happ _ _ _ (hH i)]
  have := hget_rows 0 hi
  rwa [Nat.zero_add] at this
 ·have hi2 : i = rs.length := by
   have := (List.getElem?_eq_some_iff.1 hi).1
   simp at this
   omega
  subst hi2
  simp at hi
  obtain ⟨rfl, rfl⟩ := hi
  exact hget_hd
theorem rows_set {rs : Rws} {i v : Nat} {l l' : List Int} (h : rs[i]? = some (v, l)) (hl : l'.length = l.length) : hdr 0 (rs.set i (v, l')) = hdr 0 rs ∧ ∀ id x, hget (rowsO 0 (rs.set i (v, l'))) id = some x → hget ((rid i, v, .arr 1 3 (eInt.E l')) :: rowsO 0 rs) id = some x := by
 constructor
 ·refine List.ext_getElem? fun j => ?_
  by_cases hj : j < rs.length
  ·have hb : ∃ b, rs[j]? = some b := ⟨rs[j], List.getElem?_eq_getElem hj⟩
   obtain ⟨⟨w, m⟩, hm⟩ := hb
   rw [hdr_get 0 hm]
   by_cases e : i = j
   ·subst e
    rw [h] at hm
    obtain ⟨rfl, rfl⟩ := Prod.mk.inj (Option.some.inj hm)
    rw [hdr_get 0 (show (rs.set i (v, l'))[i]? = some (v, l') by rw [List.getElem?_set_self hj]), hl]
   ·rw [hdr_get 0 (show (rs.set i (v, l'))[j]? = some (w, m) by rw [List.getElem?_set_ne e]; exact hm)]
  ·rw [List.getElem?_eq_none (by rw [hdr_len, List.length_set]; omega), List.getElem?_eq_none (by rw [hdr_len]; omega)]
 ·refine leH_get (leH_rows _ 0 fun j w m hm => ?_)
  rw [Nat.zero_add]
  by_cases e : i = j
  ·subst e
   have hi := (List.getElem?_eq_some_iff.1 h).1
   rw [List.getElem?_set_self hi] at hm
   cases hm
   exact hget_hd
  ·rw [List.getElem?_set_ne e] at hm
   rw [hget_tl (fun x => e (rid_inj x).symm)]
   have := hget_rows 0 hm
   rwa [Nat.zero_add] at this
theorem frz_rows {D : Heap} : ∀ (rs : Rws) (k : Nat), (∀ i v l, rs[i]? = some (v, l) → hget D (rid (k + i)) = some (v, .arr 1 3 (eInt.E l))) → (hdr k rs).map (frz 2 D) = (rs.map (·.2)).map (slE eInt)
 | [], _, _ => rfl
 | (v, l) :: t, k, h => by
  simp only [hdr, List.map_cons]
  rw [frz_rows t (k + 1) fun i v' l' hi => by
   have := h (i + 1) v' l' (by simpa using hi)
   rwa [show k + (i + 1) = k + 1 + i by omega] at this]
  congr 1
  exact frz_slE eInt (h 0 v l rfl) fun _ _ => rfl
abbrev eHd : EncL HV := ⟨1, fun h => [h], fun l => l, fun l => by induction l with
 | nil => rfl
 | cons a l ih => exact congrArg (a :: ·) ih, fun _ => rfl⟩
end Go.AW
namespace Go.AW
open Go Go.Proofs
theorem repI_first (x : Int) (n : Nat) : ((List.replicate n (0 : Int)).map (HV.int .i64)).take 0 ++ ([hI x]).take (min 1 n * 1) ++ ((List.replicate n (0 : Int)).map (HV.int .i64)).drop (0 + min 1 n * 1) = (List.replicate (min 1 n) x ++ List.replicate (n - min 1 n) (0 : Int)).map (HV.int .i64) := by
  cases n with
  | zero => rfl
  | succ n =>
    have e : min 1 (n + 1) = 1 := by omega
    simp [e]
theorem repI_half {x : Int} {n m : Nat} {xs : List HV} (hx : xs = (List.replicate m x ++ List.replicate (n - m) (0 : Int)).map (HV.int .i64)) (h : m ≤ n) : xs.take (0 + m * 1) ++ ((xs.drop (0 + 0 * 1)).take ((m - 0) * 1)).take (min (m - 0) (n - m) * 1) ++ xs.drop (0 + m * 1 + min (m - 0) (n - m) * 1)
    = (List.replicate (m + min m (n - m)) x ++ List.replicate (n - (m + min m (n - m))) (0 : Int)).map (HV.int .i64) := by
  subst hx
  simp only [Nat.mul_one, Nat.zero_mul, Nat.zero_add, List.drop_zero, List.map_append, List.map_replicate, Nat.sub_zero]
  rw [List.take_left' (by simp), List.take_replicate, Nat.min_eq_left (Nat.min_le_left _ _), ← List.drop_drop, List.drop_left' (by simp), List.drop_replicate, List.replicate_append_replicate]
  congr 2
  omega
set_option maxRecDepth 100000 in
set_option maxHeartbeats 1000000 in
theorem repI_own (x : Int) {n : Nat} (hn : n ≤ 1000000) {H : Heap} {KK : HV → Heap → Prop} (i : Nat) (hKK : ∀ ver, KK (.ar (rid i) ver 1 0 (List.replicate n x).length) ((rid i, ver, .arr 1 3 (eInt.E (List.replicate n x))) :: H)) : ACall Tryz.prog 27 [slE eInt [x], hI (n : Int)] H KK := by
  refine ACall.of_body Tryz.func27 rfl rfl (lb rfl) ?_
  unfold Tryz.f27
  dsimp only [enumS, Nat.reduceAdd]
  refine AW.rgs rfl fun K hK => mv rfl rfl ?_
  refine b_nil (hK _ (AW.to (to_le (s' := ⟨[(0, slE eInt [x]), (1, hI (n : Int))], H⟩) ⟨leS_get ⟨rfl, rfl, trivial⟩, fun _ _ h => h⟩ ?_)))
  refine AW.seq ?_
  refine AW.rgs rfl fun K hK => mv rfl rfl (bv rfl (v_bin rfl rfl b_lss) ?_)
  refine b_nil (hK _ (AW.to (to_le (s' := ⟨[(0, slE eInt [x]), (1, hI (n : Int)), (10, .bool (decide ((n : Int) < 0)))], H⟩) ⟨leS_get ⟨rfl, rfl, rfl, trivial⟩, fun _ _ h => h⟩ ?_)))
  refine AW.cond rfl (fun hc => ?_) (fun hc => ?_)
  · have := of_decide_eq_true hc
    omega
  · clear hc
    refine AW.skip ?_
    refine AW.rgs rfl fun K hK => mv rfl rfl (bv rfl (v_lenF rfl rfl ty27 rfl) (bv rfl (v_convI ty3 ty67 rfl) (mv rfl rfl (bv rfl (v_convI ty3 ty67 rfl) ?_))))
    refine b_op rfl (o_call rfl rfl rfl rfl (ACallD.pure0 (mul1' n hn)) ?_)
    refine mv rfl rfl (bv rfl (v_extract rfl rfl) (bv rfl (v_extract rfl rfl) (mv rfl rfl (mv rfl rfl ?_))))
    refine b_nil (hK _ (AW.to (to_le (s' := ⟨[(0, slE eInt [x]), (5, .int .u64 0), (6, .int .u64 (n : Int))], H⟩) ⟨leS_get ⟨rfl, rfl, rfl, trivial⟩, fun _ _ h => h⟩ ?_)))
    refine AW.seq ?_
    refine AW.rgs rfl fun K hK => mv rfl rfl (bv rfl (v_bin rfl rfl b_gtr) (mv rfl rfl ?_))
    refine b_T rfl rfl rfl rfl (decide_eq_false (by decide)) (o_val rfl (mv_val rfl rfl).2 ?_)
    refine b_T rfl rfl rfl rfl rfl (o_val rfl (v_bin rfl rfl b_gtr) ?_)
    refine bv rfl (v_pickF rfl rfl rfl) ?_
    refine b_nil (hK _ (AW.to (to_le (s' := ⟨[(0, slE eInt [x]), (6, .int .u64 (n : Int)), (26, .bool (decide ((9223372036854775807 : Int) < (n : Int))))], H⟩) ⟨leS_get ⟨rfl, rfl, rfl, trivial⟩, fun _ _ h => h⟩ ?_)))
    refine AW.cond rfl (fun hc => ?_) (fun hc => ?_)
    · have := of_decide_eq_true hc
      omega
    · clear hc
      refine AW.skip ?_
      refine AW.rgs rfl fun K hK => mv rfl rfl (bv rfl (v_convI ty67 ty3 rfl) ?_)
      rw [w64 (n := (n : Int)) (by omega) (by omega)]
      refine b_op rfl (o_makeE (fid := 1000000 + i) eInt (0 : Int) (rid i) rfl rfl ty27 rfl rfl ty3 rfl rfl (show 0 ≤ (n : Int) ∧ (n : Int) ≤ (n : Int) ∧ (n : Int) * ((8 : Nat) : Int) ≤ 281474976710656 by omega) (fun v6 => ?_))
      refine mv rfl rfl ?_
      refine b_nil (hK _ (AW.to (to_le (s' := ⟨[(0, slE eInt [x]), (7, .ar (rid i) v6 eInt.k 0 ((List.replicate (n : Int).toNat (0 : Int)).length))], (((rid i), v6, .arr eInt.k 3 (eInt.E (List.replicate (n : Int).toNat (0 : Int)))) :: H)⟩) ⟨leS_get ⟨rfl, rfl, trivial⟩, fun _ _ h => h⟩ ?_)))
      simp only [Int.toNat_natCast, List.length_replicate]
      refine AW.rgs rfl fun K hK => mv rfl rfl (mv rfl rfl ?_)
      refine b_op rfl (o_copy (m := 1) (n := n) (off := 0) (ds := [hI x]) (zs := (List.replicate (min 1 n) x ++ List.replicate (n - min 1 n) (0 : Int)).map (HV.int .i64)) rfl rfl rfl ty27 ty3 rfl rfl rfl hget_hd ?_ ?_ ?_ ?_)
      · show 0 + n * 1 ≤ ((List.replicate n (0 : Int)).map (HV.int .i64)).length
        simp
      · simp only [asrc, ty27]
        trivial
      · exact repI_first x n
      refine mv rfl rfl ?_
      refine b_nil (hK _ (AW.to (to_le (s' := ⟨[(7, .ar (rid i) v6 1 0 n), (8, hI ((min 1 n : Nat) : Int))], (((rid i), v6, .arr 1 3 ((List.replicate (min 1 n) x ++ List.replicate (n - min 1 n) (0 : Int)).map (HV.int .i64))) :: H)⟩) ⟨leS_get ⟨rfl, rfl, trivial⟩, le_shadow⟩ ?_)))
      refine AW.seq (AW.block ?_)
      refine AW.loopS (fun m : Nat => ⟨[(7, .ar (rid i) v6 1 0 n), (8, hI (m : Int))], (((rid i), v6, .arr 1 3 ((List.replicate m x ++ List.replicate (n - m) (0 : Int)).map (HV.int .i64))) :: H)⟩)
        (fun m => m ≤ n ∧ (m = 0 → n = 0)) (fun m => n - m) (min 1 n) (AS.le_refl _) ⟨by omega, by omega⟩ ?_
      rintro m ⟨hm, hm0⟩
      refine AW.seq ?_
      refine AW.rgs rfl fun K hK => mv rfl rfl (mv rfl rfl (bv rfl (v_lenA rfl rfl ty27 rfl hget_hd) (bv rfl (v_bin rfl rfl b_lss) ?_)))
      refine b_nil (hK _ (AW.to (to_le (s' := ⟨[(7, .ar (rid i) v6 1 0 n), (8, hI (m : Int)), (37, .bool (decide ((m : Int) < (n : Int))))], (((rid i), v6, .arr 1 3 ((List.replicate m x ++ List.replicate (n - m) (0 : Int)).map (HV.int .i64))) :: H)⟩) ⟨leS_get ⟨rfl, rfl, rfl, trivial⟩, fun _ _ h => h⟩ ?_)))
      refine AW.cond rfl (fun hc => ?_) (fun hc => ?_)
      · have hlt : m < n := by have := of_decide_eq_true hc; omega
        refine AW.skip ?_
        refine AW.block ?_
        refine AW.dy follows fun K hK => ?_
        have hcells : ((List.replicate m x ++ List.replicate (n - m) (0 : Int)).map (HV.int .i64)).length = n := by simp; omega
        refine y_stZ 7 0 rfl rfl ?_
        refine sm rfl rfl ?_
        refine sm rfl rfl ?_
        refine sm rfl rfl ?_
        refine sv rfl (hv := HV.ar (rid i) v6 1 (0 + m * 1) (n - m)) (v_sliceA (k := 1) (n := n) (a := (m : Int)) (b := (n : Int)) ty27 es27 rfl rfl rfl (by omega) hget_hd) ?_
        refine sm rfl rfl ?_
        refine sm rfl rfl ?_
        refine sv rfl (hv := HV.ar (rid i) v6 1 (0 + 0 * 1) (m - 0)) (v_sliceA (k := 1) (n := n) (a := (0 : Int)) (b := (m : Int)) ty27 es27 rfl rfl rfl (by omega) hget_hd) ?_
        refine s_nil ?_
        refine y_late (dz := 38) (dq := 45) (x := .tmp 8) (v := .int .i64 (m : Int)) (vq := .int .i64 ((min (m - 0) (n - m) : Nat) : Int)) (H' := (((rid i), v6, .arr 1 3 ((List.replicate (m + min m (n - m)) x ++ List.replicate (n - (m + min m (n - m))) (0 : Int)).map (HV.int .i64))) :: H)) rfl rfl rfl rfl rfl rfl rfl (by decide) (fun sl' H2 hl => ?_) (fun sl' H2 hl => ?_) (fun sl' hl K' hK' hc => ?_) ?_
        · show sget sl' 8 = _
          rw [hl 8 (by decide)]; rfl
        · show sget sl' 8 = _
          rw [hl 8 (by decide)]; rfl
        · have e41 : (⟨sl', (((rid i), v6, .arr 1 3 ((List.replicate m x ++ List.replicate (n - m) (0 : Int)).map (HV.int .i64))) :: H)⟩ : AS).ev (.tmp 41) = some (.ar (rid i) v6 1 (0 + m * 1) (n - m)) := by
            show sget sl' 41 = _
            rw [hl 41 (by decide)]; rfl
          have e44 : (⟨sl', (((rid i), v6, .arr 1 3 ((List.replicate m x ++ List.replicate (n - m) (0 : Int)).map (HV.int .i64))) :: H)⟩ : AS).ev (.tmp 44) = some (.ar (rid i) v6 1 (0 + 0 * 1) (m - 0)) := by
            show sget sl' 44 = _
            rw [hl 44 (by decide)]; rfl
          refine AOp.copy (t := 27) (xt := 27) (x := .tmp 41) (y := .tmp 44) (k := 1) (off := 0 + m * 1) (n := n - m) (m := m - 0) (ds := (((List.replicate m x ++ List.replicate (n - m) (0 : Int)).map (HV.int .i64)).drop (0 + 0 * 1)).take ((m - 0) * 1)) rfl rfl ty27 rfl ty3 e41 e44 (fun l e => by cases e) hget_hd ?_ ?_ ?_
          · simp only [asrc, ty27, hget_hd]
            refine ⟨trivial, trivial, ?_, trivial, ?_⟩
            · rw [hcells]
              show 0 + 0 * 1 + (m - 0) * 1 ≤ n
              omega
            · trivial
          · rw [hcells]
            show 0 + m * 1 + (n - m) * 1 ≤ n
            omega
          · refine hc _ _ ?_ (fun u => ?_) hK'
            · show hset _ _ _ _ = _
              rw [show ∀ ob : AObj, hset (((rid i), v6, .arr 1 3 ((List.replicate m x ++ List.replicate (n - m) (0 : Int)).map (HV.int .i64))) :: H) (rid i) v6 ob = (((rid i), v6, ob) :: H) from fun ob => by simp [hset]]
              have := repI_half (x := x) (n := n) (m := m) rfl hm
              exact congrArg (fun xs => (((rid i), v6, AObj.arr 1 3 xs) :: H)) this
            · show sget (AS.put _ (some 45) _).slots u = _
              simp only [AS.put, sget_sset, sget]
        · have hw : IntKind.wrap .i64 ((m : Int) + ((min (m - 0) (n - m) : Nat) : Int)) = ((m + min m (n - m) : Nat) : Int) := by
            rw [w64 (by omega) (by omega)]; omega
          refine y_op rfl rfl rfl rfl (o_val rfl (v_bin rfl rfl b_add) ?_)
          refine b_nil ?_
          refine y_op rfl rfl rfl rfl (o_val rfl (mv_val rfl rfl).2 ?_)
          refine b_nil ?_
          refine y_nil rfl (hK _ ?_)
          rw [hw]
          exact ⟨m + min m (n - m), ⟨by omega, by omega⟩, by omega, ⟨leS_get ⟨rfl, rfl, trivial⟩, fun _ _ h => h⟩⟩
      · have hge : m = n := by have := of_decide_eq_false hc; omega
        subst hge
        refine AW.exit ?_
        have e0 : List.replicate m x ++ List.replicate (m - m) (0 : Int) = List.replicate m x := by simp
        rw [e0]
        refine AW.rgs rfl fun K hK => mv rfl rfl (mv rfl rfl ?_)
        refine b_nil (hK _ (AW.to (to_le (s' := ⟨[(4, .ar (rid i) v6 eInt.k 0 ((List.replicate m x).length))], (((rid i), v6, .arr eInt.k 3 (eInt.E (List.replicate m x))) :: H)⟩) ⟨leS_get ⟨arl (by simp), trivial⟩, fun _ _ h => h⟩ ?_)))
        exact AW.ret ⟨.inr rfl, resT rfl ⟨_, _, Conv.refl _ _, hKK v6⟩⟩
end Go.AW
namespace Go.AW
open Go
theorem SR.frzH {w : World} {μ : Mu} {H D H' : Heap} (n : Nat) (h : SR w μ H) (hD : ∀ id x, hget D id = some x → hget H id = some x ∧ hget H' id = none)
  (hs : ∀ id ver o, hget H' id = some (ver, o) → hget H id = some (ver, o) ∨ ∃ k e cs, hget H id = some (ver, .arr k e cs) ∧ o = .arr k e (cs.map (frz n D))) : SR w (μ.cut H') H' where
 ok := fun id ver b hb => h.ok id ver b (Mu.cut_some hb)
 has := fun id ver o ho => by
  rcases hs id ver o ho with h1 | ⟨k, e, cs, h1, rfl⟩
  ·obtain ⟨l, hl, hor⟩ := h.has id ver o h1
   exact ⟨l, by simp [Mu.cut, ho, hl], hor.evo (Evo.cut w μ H') h.ok (fun _ _ => rfl) (fun _ _ _ _ _ _ _ _ => rfl)⟩
  ·obtain ⟨l, hl, hor⟩ := h.has id ver _ h1
   refine ⟨l, by simp [Mu.cut, ho, hl], ?_⟩
   cases l with
   | none =>
    have : cs = [] := hor
    subst this
    exact (rfl : ([] : List HV).map (frz n D) = [])
   | some b =>
    obtain ⟨h0, cur, vs, rest, hrow, hcl, hrl⟩ := hor
    exact ⟨ones_frz h0, cur, vs, rest, hrow, hcl, RepL.mapF (fun c x _ => frz_rep h hD n c x) hrl⟩
 only := fun id x hx => by
  simp only [Mu.cut] at hx
  split at hx
  ·rename_i hi; exact Option.isSome_iff_exists.1 hi
  ·cases hx
 inj := fun i j v u b hi hj => h.inj i j v u b (Mu.cut_some hi) (Mu.cut_some hj)
 held := fun b hb => ⟨(h.held b hb).1, fun ⟨id, ver, hl⟩ => (h.held b hb).2 ⟨id, ver, Mu.cut_some hl⟩⟩
def leO (n : Nat) (D : Heap) (l : Heap) : Heap → Prop
 | [] => True
 | (i, v, o) :: l' => (hget l i = some (v, o) ∨ ∃ k e cs, hget l i = some (v, .arr k e cs) ∧ o = .arr k e (cs.map (frz n D))) ∧ leO n D l l'
theorem leO_get {n : Nat} {D l : Heap} : ∀ {l' : Heap}, leO n D l l' → ∀ t v o, hget l' t = some (v, o) → hget l t = some (v, o) ∨ ∃ k e cs, hget l t = some (v, .arr k e cs) ∧ o = .arr k e (cs.map (frz n D))
 | [], _, _, _, _, h => by cases h
 | (i, g, u) :: l', h, t, v, o, ht => by
  simp only [hget] at ht
  split at ht
  ·rename_i e; subst e; cases ht; exact h.1
  ·exact leO_get h.2 t v o ht
theorem to_fill {s : AS} {G : AS → Prop} (n : Nat) (D : Heap) (s' : AS) (h1 : leF n D s.slots s'.slots) (h2 : leO n D s.heap s'.heap) (h3 : leH s.heap D) (h4 : noneH s'.heap D) (h : G s') : s.to G := by
 intro ro N B μ a w hs
 have hD : ∀ id x, hget D id = some x → hget s.heap id = some x ∧ hget s'.heap id = none := fun id x hx => ⟨leH_get h3 id x hx, noneH_get h4 id x hx⟩
 refine ⟨μ.cut s'.heap, s', h, ⟨hs.size, hs.sr.frzH n hD (leO_get h2), fun t hv ht => ?_, hs.marks.evo (Evo.cut w μ s'.heap), hs.ro.evo (Evo.cut w μ s'.heap)⟩, Evo.cut w μ s'.heap⟩
 obtain ⟨g, hg, rfl⟩ := leF_get h1 t hv ht
 exact ⟨(hs.slot t g hg).1, frz_rep hs.sr hD n g _ (hs.slot t g hg).2⟩
theorem fill_obj {α : Type} {c : EncL α} {D : Heap} {C ver n i : Nat} {e e2 : TypeId} {L : List (List α)} {m : List α} (hg : hget D C = some (ver, .arr c.k e2 (c.E m))) (hn : n = m.length) (hc : ∀ x, (c.C x).map (frz 1 D) = c.C x) :
  (AObj.arr (eSl c).k e ((eSl c).E (L.set i m))) = .arr (eSl c).k e ((((eSl c).E L).set i (.ar C ver c.k 0 n)).map (frz 2 D)) := by
 congr 1
 show (L.set i m).map (slE c) = ((L.map (slE c)).set i _).map (frz 2 D)
 rw [List.map_set, List.map_set, hn, frz_slE c hg fun x _ => hc x, List.map_map]
 congr 1
theorem LeL.ones : ∀ {aa bs : List HV} (_ : LeL aa bs), ones aa → ones bs
 | _, _, .nil, h => h
 | _, _, .cons h h', h0 => fun c hc => by
  rcases List.mem_cons.1 hc with rfl | hc
  ·have := h0 _ (List.mem_cons_self ..)
   cases h with
   | refl => exact this
   | nil => rfl
   | empty => rfl
  ·exact LeL.ones h' (fun d hd => h0 d (List.mem_cons_of_mem _ hd)) c hc
theorem to_cells {s : AS} {G : AS → Prop} (id ver : Nat) {k : Nat} {e : TypeId} {cs ds : List HV} (hg : hget s.heap id = some (ver, .arr k e cs)) (hl : LeL cs ds) (h : G ⟨s.slots, (id, ver, .arr k e ds) :: s.heap⟩) : s.to G := by
 intro ro N B μ a w hs
 have h1 := hs.sr.reobj (o' := .arr k e ds) hg fun l _ hor => by
  cases l with
  | none =>
   have : cs = [] := hor
   subst this
   cases hl
   exact hor
  | some b =>
   obtain ⟨h0, cur, vs, rest, hrow, hcl, hrl⟩ := hor
   exact ⟨hl.ones h0, cur, vs, rest, hrow, hcl, hl.rep hrl⟩
 refine ⟨μ, _, h, ⟨hs.size, h1.le fun j x => ?_, hs.slot, hs.marks, hs.ro⟩, Evo.refl w μ⟩
 simp only [hget, hget_hset]
section
variable {P : Program} {ro : Option Nat} {N : Nat} {all : Array Oper} {s : AS} {rest : List Oper} {o : Oper} {K : AS → Prop} {fid : Nat} {sl : List (Nat × HV)} {H : Heap}
theorem AOps.to {is : List Nat} (h : s.to (AOps P ro N all is K)) : AOps P ro N all is K s := fun w0 μ0 μ a w Q hs hE hK => by
 obtain ⟨μ1, t, ht, hs1, E1⟩ := h ro N w0.heap.size μ a w hs
 exact ht w0 μ0 μ1 a w Q hs1 (hE.trans E1) hK
theorem b_to {l : List Oper} (h : s.to (bops P ro N all l K)) : bops P ro N all l K s := fun hok i hi => AOps.to (to_mono h fun t ht => ht hok i hi)
theorem leL_nils {α : Type} (c : EncL α) (n : Nat) : LeL ((encM fun _ : Unit => HV.v (.slice none 0 0)).E (List.replicate n ())) ((eSl c).E (List.replicate n ([] : List α))) := by
 show LeL ((List.replicate n ()).map _) ((List.replicate n ([] : List α)).map (slE c))
 rw [List.map_replicate, List.map_replicate]
 have : slE c [] = HV.sl c.k 0 [] := by show HV.sl c.k 0 (c.E []) = _; rw [c.nil]
 rw [this]
 induction n with
 | zero => exact .nil
 | succ n ih => exact .cons (.nil c.k) ih
theorem o_makeN {α : Type} (c : EncL α) {d : Nat} {t e : TypeId} {a b : Nat} {z : Value} {x y : Operand} {l m : Int} {Te : TyI} (id : Nat) (h0 : (o.dst, o.op) = (some d, .makeSlice t x y)) (hid : fid * 1000 + d = id) (hT : ty P t = some ⟨.slice e, a, b, z⟩) (hx : (⟨sl, H⟩ : AS).ev x = some (.int .i64 l)) (hy : (⟨sl, H⟩ : AS).ev y = some (.int .i64 m)) (hTe : ty P e = some Te)
  (hz : zcells Te.zero = some [.v (.slice none 0 0)]) (h1 : Te.size = 1) (h2 : 0 ≤ l ∧ l ≤ m ∧ m * Te.bytes ≤ 281474976710656)
  (k : ∀ ver, bops P ro N all rest K ⟨(d, .ar id ver (eSl c).k 0 (List.replicate l.toNat ([] : List α)).length) :: sl, (id, ver, .arr (eSl c).k e ((eSl c).E (List.replicate l.toNat []))) :: H⟩) : aop P fid [] o (fun s' => bops P ro N all rest K s') ⟨sl, H⟩ := by
 refine o_makeE (encM fun _ : Unit => HV.v (.slice none 0 0)) () id h0 hid hT hx hy hTe hz h1 h2 fun ver => ?_
 refine b_to (to_cells (k := (eSl c).k) (e := e) (cs := (encM fun _ : Unit => HV.v (.slice none 0 0)).E (List.replicate l.toNat ())) (ds := (eSl c).E (List.replicate l.toNat [])) id ver (by simp only [hget, if_pos]; rfl) (leL_nils c l.toNat) ?_)
 refine bops_le ?_ (k ver)
 refine ⟨fun t hv ht => ?_, fun j x hj => ?_⟩
 ·simp only [sget] at ht ⊢
  split at ht
  ·rename_i e'
   rw [if_pos e']
   cases ht
   simp only [List.length_replicate]
   rfl
  ·rename_i e'
   rw [if_neg e']
   exact ht
 ·simp only [hget] at hj ⊢
  split at hj
  ·rename_i e'
   rw [if_pos e']
   exact hj
  ·rename_i e'
   rw [if_neg e', if_neg e']
   exact hj
theorem splice_one {xs : List HV} {i : Nat} (v : HV) (h : i < xs.length) : splice xs i [v] = xs.set i v := by
 rw [splice_eq (by show i + 1 ≤ _; omega), List.set_eq_take_append_cons_drop, if_pos h]
 simp
theorem o_storeH {α : Type} (c : EncL α) {t : TypeId} {x y : Operand} {id ver : Nat} {e : TypeId} {hv : HV} {T : TyI} {L : List (List α)} {j : Int} (h0 : (o.dst, o.op) = (none, .store t x y)) (hx : (⟨sl, H⟩ : AS).ev x = some (.ptr id ver (j.toNat * (eSl c).k))) (hy : (⟨sl, H⟩ : AS).ev y = some hv) (hT : ty P t = some T) (hc : hv.cells? = some [hv])
  (hg : hget H id = some (ver, .arr (eSl c).k e ((eSl c).E L))) (h1 : T.size = 1) (hj : 0 ≤ j ∧ j < L.length) (kk : bops P ro N all rest K ⟨sl, (id, ver, .arr (eSl c).k e (((eSl c).E L).set j.toNat hv)) :: H⟩) : aop P 0 [] o (fun s' => bops P ro N all rest K s') ⟨sl, H⟩ := by
 have hl : ((eSl c).E L).length = L.length := by show (L.map (slE c)).length = _; rw [List.length_map]
 have hlt : j.toNat < ((eSl c).E L).length := by rw [hl]; omega
 have e1 : (eSl c).k = 1 := rfl
 refine o_store_z (s := ⟨sl, H⟩) (cs := [hv]) (zs := ((eSl c).E L).set j.toNat hv) h0 hx hy hT hc hg h1 ?_ ?_ kk
 ·rw [e1, Nat.mul_one]
  exact Nat.ble_eq_true_of_le (by show j.toNat + 1 ≤ _; omega)
 ·rw [e1, Nat.mul_one]
  exact splice_one hv hlt
end
end Go.AW
namespace Go.AW
open Go
section
variable {P : Program} {s : AS}
theorem v_arrP {t e : TypeId} {len a b : Nat} {z : Value} {x i : Operand} {k id ver off : Nat} {o : AObj} {k' : IntKind} {j : Int} (hT : ty P t = some ⟨.array len e, a, b, z⟩) (hE : elemSize P t = some k) (hx : s.ev x = some (.ptr id ver off)) (hi : s.ev i = some (.int k' j)) (hj : 0 ≤ j ∧ j < len) (hg : hget s.heap id = some (ver, o)) :
  aval P (.indexAddr t x i) s (· = .ptr id ver (off + j.toNat * k)) := by
 simp only [aval, hT, hE, hx, hi]
 exact ⟨hj.1, hj.2, by simp only [alive, hg], trivial⟩
end
end Go.AW
namespace Go.AW
open Go
section
variable {P : Program} {ro : Option Nat} {N B : Nat} {s : AS} {all : Array Oper} {rest : List Oper} {o : Oper} {K : AS → Prop} {sl : List (Nat × HV)} {H : Heap}
theorem AOp.sliceArr {t e : TypeId} {len sz by' : Nat} {z : Value} {x : Operand} {lo : Option Operand} {cs : List HV} {k : Nat} {p : Int} (hop : o.op = .slice t x lo none none) (hN : okd N o.dst = true) (hT : ty P t = some ⟨.array len e, sz, by', z⟩) (hk : elemSize P t = some k) (hx : s.ev x = some (.fptr cs 0)) (hp : asl s lo 0 = some p) (h0 : 0 ≤ p ∧ p < len) (hl : cs.length = len * k) (hm : len ≤ maxLen)
  (h : K (s.put o.dst (.sl k (len - p.toNat) (cs.drop (p.toNat * k))))) : AOp P ro N o K s := by
 refine AOp.value (fun c e => by rw [hop] at e; cases e) hN fun B μ a w hs => ?_
 have hu := ty_under hT
 have hz := elemSize_array hT rfl hk w
 obtain ⟨h9, b, base, vs, he, ho, hsg, hrl⟩ := hs.ev hx
 have hq : asl s none (len : Int) = some (len : Int) := rfl
 have hb := run_bounds (P := P) hs false len len hp hq h0.1 (by omega) (by omega)
 rw [Int.toNat_natCast] at hb
 have hpc : len ≠ p.toNat := by omega
 have hpk : p.toNat * k ≤ len * k := Nat.mul_le_mul_right _ (by omega)
 refine ⟨.slice (some ⟨b, base + p.toNat * k, none⟩) (len - p.toNat) (len - p.toNat), _, μ, w, s.heap, ?_, hs.sr, Evo.refl w μ, ?_, h⟩
 ·simp only [Option.map_none] at hb
  simp [execOp, hop, Instr.sliceAt, Instr.sureAddr, he, hu, hb, hz, hpc, Addr.add_lit]
 ·refine ⟨h9.drop _, ?_, by omega, .inr ⟨b, base + p.toNat * k, _, vs.drop (p.toNat * k), rfl, Nat.le_refl _, ho, ?_, hrl.drop _⟩⟩
  ·rw [List.length_drop, hl, Nat.sub_mul]
  ·exact hsg.drop (p.toNat * k) (by have := hrl.length; omega)
theorem b_sliceArr {d : Nat} {t e : TypeId} {len sz by' : Nat} {z : Value} {x : Operand} {lo : Option Operand} {cs : List HV} {k : Nat} {p : Int} (h0 : (o.guard, o.dst, o.op) = (none, some d, .slice t x lo none none)) (hT : ty P t = some ⟨.array len e, sz, by', z⟩) (hk : elemSize P t = some k) (hx : (⟨sl, H⟩ : AS).ev x = some (.fptr cs 0)) (hp : asl ⟨sl, H⟩ lo 0 = some p) (hpl : 0 ≤ p ∧ p < len) (hl : cs.length = len * k) (hm : len ≤ maxLen)
  (kk : bops P ro N all rest K ⟨(d, .sl k (len - p.toNat) (cs.drop (p.toNat * k))) :: sl, H⟩) : bops P ro N all (o :: rest) K ⟨sl, H⟩ := by
 obtain ⟨h1, h2⟩ := Prod.mk.inj h0
 obtain ⟨h2, h3⟩ := Prod.mk.inj h2
 refine b_opX h1 fun hN => AOp.sliceArr h3 hN hT hk hx hp hpl hl hm ?_
 rw [h2]
 exact bops_le (put_le (s := ⟨sl, H⟩) d _) kk
end
end Go.AW
namespace Go.AW
open Go
set_option linter.unusedSimpArgs false
set_option linter.unusedVariables false
theorem loopW_eq {S X : Type} (body : S → Option (Stp S X)) (s : S) : loopW body s = match body s with
  | none => none
  | some (.exit x) => some x
  | some (.next s') => loopW body s' := by
 cases h : body s with
 | none => exact loopW_stuck h
 | some r => cases r with
  | exit x => exact loopW_exit h
  | next s' => exact loopW_next h
abbrev Gr := TLabelsStatesEdges
abbrev Ed := TFromLabelTo
def cmp3 (x y : Ed) : Int := if x.1 < y.1 then -1 else if y.1 < x.1 then 1 else if x.2.1 < y.2.1 then -1 else if y.2.1 < x.2.1 then 1 else if x.2.2 < y.2.2 then -1 else if y.2.2 < x.2.2 then 1 else 0
theorem cmpC (a b : Int) : m_cmp_Compare_int a b = some (if a < b then -1 else if b < a then 1 else 0) := by
 unfold m_cmp_Compare_int m_cmp_isNaN_int
 simp only [ne_eq, not_true_eq_false, decide_false, Option.bind_some, Bool.false_eq_true, if_false]
 split <;> (try rfl)
 split <;> rfl
theorem wr0 : IntKind.wrap .i64 (0 + 1) = 1 := by decide
theorem wr1 : IntKind.wrap .i64 (1 + 1) = 2 := by decide
theorem wr2 : IntKind.wrap .i64 (2 + 1) = 3 := by decide
theorem ix3_0 (a b c : Int) : idx [a, b, c] 0 = some a := rfl
theorem ix3_1 (a b c : Int) : idx [a, b, c] 1 = some b := rfl
theorem ix3_2 (a b c : Int) : idx [a, b, c] 2 = some c := rfl
theorem len3 (a b c : Int) : (([a, b, c] : List Int).length : Int) = 3 := rfl
theorem by1_eq (x y : Ed) : m_graph_by_api_Edge_1 x y = some (cmp3 x y) := by
 unfold m_graph_by_api_Edge_1 m_graph_list m_slices_Compare_Lint_int cmp3
 simp only [Option.bind_some, len3]
 rw [loopW_eq]
 simp only [ix3_0, cmpC, Option.bind_some, wr0]
 by_cases a1 : x.1 < y.1
 ·simp [a1, lpO]
 by_cases a2 : y.1 < x.1
 ·simp [a1, a2, lpO]
 simp only [a1, a2, if_false, ne_eq, not_true_eq_false, if_true, Int.reduceLT, Int.reduceLE]
 rw [loopW_eq]
 simp only [ix3_1, cmpC, Option.bind_some, wr1]
 by_cases b1 : x.2.1 < y.2.1
 ·simp [b1, lpO]
 by_cases b2 : y.2.1 < x.2.1
 ·simp [b1, b2, lpO]
 simp only [b1, b2, if_false, ne_eq, not_true_eq_false, if_true, Int.reduceLT, Int.reduceLE]
 rw [loopW_eq]
 simp only [ix3_2, cmpC, Option.bind_some, wr2]
 by_cases c1 : x.2.2 < y.2.2
 ·simp [c1, lpO]
 by_cases c2 : y.2.2 < x.2.2
 ·simp [c1, c2, lpO]
 simp only [c1, c2, if_false, ne_eq, not_true_eq_false, if_true, Int.reduceLT, Int.reduceLE]
 rw [loopW_eq]
 simp [lpO]
theorem cmp_eq (x y : Ed) : m_ref09_Compare x y = some (cmp3 x y) := by
 unfold m_ref09_Compare cmp3
 rw [loopW_eq]
 simp only [ix3_0, Option.bind_some, wr0]
 by_cases a1 : x.1 < y.1
 ·simp [a1, lpO]
 by_cases a2 : y.1 < x.1
 ·simp [a1, a2, lpO]
 simp only [a1, a2, if_false, if_true, Int.reduceLT]
 rw [loopW_eq]
 simp only [ix3_1, Option.bind_some, wr1]
 by_cases b1 : x.2.1 < y.2.1
 ·simp [b1, lpO]
 by_cases b2 : y.2.1 < x.2.1
 ·simp [b1, b2, lpO]
 simp only [b1, b2, if_false, if_true, Int.reduceLT]
 rw [loopW_eq]
 simp only [ix3_2, Option.bind_some, wr2]
 by_cases c1 : x.2.2 < y.2.2
 ·simp [c1, lpO]
 by_cases c2 : y.2.2 < x.2.2
 ·simp [c1, c2, lpO]
 simp only [c1, c2, if_false, if_true, Int.reduceLT]
 rw [loopW_eq]
 simp [lpO]
theorem Check_ref (g : Gr) : m_graph_Check g = m_ref09_Check g := by
 unfold m_graph_Check m_ref09_Check
 have key : ∀ (x : Ed) (k : Bool → Option (Stp Int (Ou Unit Int))), (if (min (min x.1 x.2.1) x.2.2) < 0 then k true else if g.2.1 ≤ (max x.1 x.2.2) then k true else k (decide (g.1 ≤ x.2.1))) =
   (if x.1 < 0 then k true else if g.2.1 ≤ x.1 then k true else if x.2.2 < 0 then k true else if g.2.1 ≤ x.2.2 then k true else if x.2.1 < 0 then k true else k (decide (g.1 ≤ x.2.1))) := by
  intro x k
  by_cases h1 : x.1 < 0
  ·rw [if_pos (by omega), if_pos h1]
  by_cases h2 : g.2.1 ≤ x.1
  ·rw [if_neg h1, if_pos h2]
   split
   ·rfl
   ·rw [if_pos (by omega)]
  by_cases h3 : x.2.2 < 0
  ·rw [if_neg h1, if_neg h2, if_pos h3, if_pos (by omega)]
  by_cases h4 : g.2.1 ≤ x.2.2
  ·rw [if_neg h1, if_neg h2, if_neg h3, if_pos h4]
   split
   ·rfl
   ·rw [if_pos (by omega)]
  by_cases h5 : x.2.1 < 0
  ·rw [if_neg h1, if_neg h2, if_neg h3, if_neg h4, if_pos h5, if_pos (by omega)]
  ·rw [if_neg h1, if_neg h2, if_neg h3, if_neg h4, if_neg h5, if_neg (by omega), if_neg (by omega)]
 simp only [by1_eq, cmp_eq, key]
structure VG (g : Gr) : Prop where
 l1 : 1 ≤ g.1
 l2 : g.1 ≤ 256
 s0 : 0 ≤ g.2.1
 s1 : g.2.1 ≤ 64
 el : g.2.2.length ≤ 1024
 ed : ∀ x ∈ g.2.2, 0 ≤ x.1 ∧ x.1 < g.2.1 ∧ 0 ≤ x.2.2 ∧ x.2.2 < g.2.1 ∧ 0 ≤ x.2.1 ∧ x.2.1 < g.1
 ord : ∀ (i : Nat) (h : i + 1 < g.2.2.length), cmp3 (g.2.2[i]'(by omega)) g.2.2[i + 1] < 0
theorem ix_pred {α : Type} {l : List α} {i : Nat} (h : i < l.length) (hm : l.length ≤ 9223372036854775807) (h0 : 0 < i) : idx l (IntKind.wrap .i64 ((i : Int) - 1)) = some (l[i - 1]'(by omega)) := by
 rw [w64 (by omega) (by omega), show ((i : Int) - 1) = ((i - 1 : Nat) : Int) by omega]
 exact ix (by omega)
theorem lpO_ex {V R Y : Type} {o : Option (Ou V R)} {M : V → Option Y} {Rt : R → Option Y} {C : Y → Prop} (Q : Ou V R → Prop) (h : ∃ x, o = some x ∧ Q x) (k : ∀ x, Q x → ∃ e, lpO (some x) M Rt = some e ∧ C e) : ∃ e, lpO o M Rt = some e ∧ C e := by
 obtain ⟨x, rfl, hq⟩ := h
 exact k x hq
theorem Check_tot (g : Gr) : ∃ e, m_ref09_Check g = some e ∧ (e = 0 ↔ VG g) := by
  unfold m_ref09_Check
  simp only [jp]
  by_cases h1 : g.1 < 1
  · exact ⟨12, by simp [h1], by simp; intro v; have := v.l1; omega⟩
  by_cases h2 : 256 < g.1
  · exact ⟨12, by simp [h1, h2], by simp; intro v; have := v.l2; omega⟩
  by_cases h3 : g.2.1 < 0
  · exact ⟨2, by simp [h1, h2, h3], by simp; intro v; have := v.s0; omega⟩
  by_cases h4 : 64 < g.2.1
  · exact ⟨4, by simp [h1, h2, h3, h4], by simp; intro v; have := v.s1; omega⟩
  by_cases h5 : 1024 < (g.2.2.length : Int)
  · exact ⟨4, by simp [h1, h2, h3, h4, h5], by simp; intro v; have := v.el; omega⟩
  simp only [h1, h2, h3, h4, h5, if_false, decide_false, Bool.false_eq_true, cmp_eq, Option.bind_some, if_true]
  refine lpO_ex (fun x => (x = .ret 2 ∧ ¬ VG g) ∨ (x = .ret 10 ∧ ¬ VG g) ∨ (x = .go () ∧ VG g)) ?_ ?_
  · refine loopN g.2.2.length (fun i s => s = (i : Int) ∧ (∀ (j : Nat) (h : j < i) (hj : j < g.2.2.length), 0 ≤ g.2.2[j].1 ∧ g.2.2[j].1 < g.2.1 ∧ 0 ≤ g.2.2[j].2.2 ∧ g.2.2[j].2.2 < g.2.1 ∧ 0 ≤ g.2.2[j].2.1 ∧ g.2.2[j].2.1 < g.1) ∧
        ∀ (j : Nat) (h : j + 1 < i) (hj : j + 1 < g.2.2.length), cmp3 (g.2.2[j]'(by omega)) g.2.2[j + 1] < 0) ?_ ?_ 0 _ (Nat.zero_le _) ⟨rfl, fun _ h => by omega, fun _ h => by omega⟩
    · rintro i s hi ⟨rfl, he, ho⟩
      rw [if_pos (lt_int hi), ix hi]
      simp only [Option.bind_some]
      by_cases hg : 0 ≤ g.2.2[i].1 ∧ g.2.2[i].1 < g.2.1 ∧ 0 ≤ g.2.2[i].2.2 ∧ g.2.2[i].2.2 < g.2.1 ∧ 0 ≤ g.2.2[i].2.1 ∧ g.2.2[i].2.1 < g.1
      · obtain ⟨e1, e2, e3, e4, e5, e6⟩ := hg
        rw [if_neg (by omega), if_neg (by omega), if_neg (by omega), if_neg (by omega), if_neg (by omega)]
        have hd : decide (g.1 ≤ g.2.2[i].2.1) = false := decide_eq_false (by omega)
        rw [hd]
        simp only [Bool.false_eq_true, if_false]
        have he' : ∀ (j : Nat) (h : j < i + 1) (hj : j < g.2.2.length), 0 ≤ g.2.2[j].1 ∧ g.2.2[j].1 < g.2.1 ∧ 0 ≤ g.2.2[j].2.2 ∧ g.2.2[j].2.2 < g.2.1 ∧ 0 ≤ g.2.2[j].2.1 ∧ g.2.2[j].2.1 < g.1 := by
          intro j hj hjl
          by_cases hji : j = i
          · subst hji; exact ⟨e1, e2, e3, e4, e5, e6⟩
          · exact he j (by omega) hjl
        by_cases h0 : 0 < i
        · rw [if_pos (by omega), ix_pred hi (by omega) h0]
          simp only [Option.bind_some]
          by_cases hc : 0 ≤ cmp3 (g.2.2[i - 1]'(by omega)) g.2.2[i]
          · refine .inr ⟨.ret 10, by rw [if_pos (decide_eq_true hc)], .inr (.inl ⟨rfl, fun v => ?_⟩)⟩
            have := v.ord (i - 1) (by omega)
            simp only [show i - 1 + 1 = i by omega] at this
            omega
          · refine .inl ⟨_, by rw [if_neg (by simpa using hc)], by rw [nx (by omega : g.2.2.length ≤ _) hi], he', fun j hj hjl => ?_⟩
            by_cases hji : j + 1 = i
            · have hj' : j = i - 1 := by omega
              subst hj'
              simp only [show i - 1 + 1 = i by omega]
              omega
            · exact ho j (by omega) hjl
        · refine .inl ⟨_, by rw [if_neg (by omega)], by rw [nx (by omega : g.2.2.length ≤ _) hi], he', fun j hj hjl => by omega⟩
      · have hv : ¬ VG g := fun v => hg (v.ed _ (List.getElem_mem hi))
        refine .inr ⟨.ret 2, ?_, .inl ⟨rfl, hv⟩⟩
        by_cases e1 : g.2.2[i].1 < 0
        · rw [if_pos e1]
        rw [if_neg e1]
        by_cases e2 : g.2.1 ≤ g.2.2[i].1
        · rw [if_pos e2]
        rw [if_neg e2]
        by_cases e3 : g.2.2[i].2.2 < 0
        · rw [if_pos e3]
        rw [if_neg e3]
        by_cases e4 : g.2.1 ≤ g.2.2[i].2.2
        · rw [if_pos e4]
        rw [if_neg e4]
        by_cases e5 : g.2.2[i].2.1 < 0
        · rw [if_pos e5]
        rw [if_neg e5, if_pos (decide_eq_true (by omega))]
    · rintro s ⟨rfl, he, ho⟩
      rw [if_neg (not_lt_int _)]
      refine ⟨_, rfl, .inr (.inr ⟨rfl, ⟨by omega, by omega, by omega, by omega, by omega, fun x hx => ?_, fun i h => ho i h h⟩⟩)⟩
      obtain ⟨j, hj, rfl⟩ := List.getElem_of_mem hx
      exact he j hj hj
  · rintro x (⟨rfl, hv⟩ | ⟨rfl, hv⟩ | ⟨rfl, hv⟩)
    · exact ⟨2, rfl, by simp [hv]⟩
    · exact ⟨10, rfl, by simp [hv]⟩
    · exact ⟨0, rfl, by simp [hv]⟩
theorem wu8 (n : Int) : IntKind.wrap .u8 n = n % 256 := by simp [IntKind.wrap, IntKind.bits, IntKind.signed]
theorem wu32 (n : Int) : IntKind.wrap .u32 n = n % 4294967296 := by simp [IntKind.wrap, IntKind.bits, IntKind.signed]
theorem wu64 (n : Int) : IntKind.wrap .u64 n = n % 18446744073709551616 := by simp [IntKind.wrap, IntKind.bits, IntKind.signed]
theorem loopW_to {S X : Type} {body : S → Option (Stp S X)} {x0 : X} (I : S → Prop) (m : S → Nat) (step : ∀ s, I s → (∃ s', body s = some (.next s') ∧ I s' ∧ m s' < m s) ∨ body s = some (.exit x0)) {s : S} (hI : I s) : loopW body s = some x0 := by
 obtain ⟨x, hx, rfl⟩ := loopW_inv I m (fun x => x = x0) (fun s hs => (step s hs).imp id fun h => ⟨_, h, rfl⟩) s hI
 exact hx
def be (n : Nat) : List UInt8 := if n = 0 then [] else be (n / 256) ++ [UInt8.ofNat n]
termination_by n
decreasing_by omega
theorem be0 : be 0 = [] := by rw [be]; simp
theorem be_step (m c : Nat) (hc : c < 256) (h : ¬ (m = 0 ∧ c = 0)) : be (256 * m + c) = be m ++ [UInt8.ofNat c] := by
 rw [be, if_neg (by omega), show (256 * m + c) / 256 = m by omega]
 congr 2
 apply UInt8.toNat_inj.1
 simp
theorem be_nil {n : Nat} : be n = [] ↔ n = 0 := by
 constructor
 ·intro h
  rw [be] at h
  by_cases e : n = 0
  ·exact e
  ·rw [if_neg e] at h; simp at h
 ·rintro rfl; exact be0
theorem be_pos {n : Nat} (h : n ≠ 0) : 0 < (be n).length := List.length_pos_iff.2 fun e => h (be_nil.1 e)
def valB (l : List UInt8) : Nat := l.foldl (fun a b => 256 * a + b.toNat) 0
theorem valB_app (l : List UInt8) (b : UInt8) : valB (l ++ [b]) = 256 * valB l + b.toNat := by simp [valB]
theorem valB_be (n : Nat) : valB (be n) = n := by
 induction n using Nat.strongRecOn with
 | _ n ih =>
  rw [be]
  by_cases e : n = 0
  ·simp [e, valB]
  ·rw [if_neg e, valB_app, ih (n / 256) (by omega)]
   simp
   omega
theorem be_len {n : Nat} : ∀ k, n < 256 ^ k → (be n).length ≤ k
 | 0, h => by
  have : n = 0 := by simpa using h
  rw [this, be0]; simp
 | k + 1, h => by
  rw [be]
  by_cases e : n = 0
  ·simp [e]
  ·rw [if_neg e, List.length_append]
   have := be_len (n := n / 256) k (by rw [Nat.pow_succ] at h; omega)
   simp
   omega
theorem be_lt (n : Nat) : n < 256 ^ (be n).length := by
 induction n using Nat.strongRecOn with
 | _ n ih =>
  rw [be]
  by_cases e : n = 0
  ·simp [e]
  ·rw [if_neg e, List.length_append]
   have := ih (n / 256) (by omega)
   simp only [List.length_cons, List.length_nil, Nat.zero_add, Nat.pow_succ]
   omega
def valN : List Int → Nat
 | [] => 0
 | d :: l => d.toNat + 4294967296 * valN l
def wfN (x : List Int) : Prop := ∀ d ∈ x, 0 ≤ d ∧ d < 4294967296
theorem valN_zeros : ∀ (x : List Int), (∀ d ∈ x, d = 0) → valN x = 0
 | [], _ => rfl
 | d :: l, h => by
  have h0 := h d (by simp)
  subst h0
  simp [valN, valN_zeros l fun d hd => h d (by simp [hd])]
theorem valN_app : ∀ (x y : List Int), valN (x ++ y) = valN x + 4294967296 ^ x.length * valN y
 | [], y => by simp [valN]
 | d :: l, y => by
  simp only [List.cons_append, valN, valN_app l y, List.length_cons, Nat.pow_succ]
  rw [Nat.mul_add]
  have : 4294967296 ^ l.length * 4294967296 * valN y = 4294967296 * (4294967296 ^ l.length * valN y) := by rw [Nat.mul_comm (4294967296 ^ l.length), Nat.mul_assoc]
  omega
theorem valN_lt : ∀ {x : List Int}, wfN x → valN x < 4294967296 ^ x.length
 | [], _ => by simp [valN]
 | d :: l, h => by
  have h0 := h d (by simp)
  have := valN_lt (x := l) fun d hd => h d (by simp [hd])
  simp only [valN, List.length_cons, Nat.pow_succ]
  omega
theorem trim_eq : ∀ (n : Nat) (x : List Int), x.length = n → x.length ≤ 9223372036854775807 → ∃ y k, m_integer_trim x = some y ∧ x = y ++ List.replicate k 0 ∧ (y = [] ∨ ∃ z d, y = z ++ [d] ∧ d ≠ 0) := by
 intro n
 induction n with
 | zero =>
  intro x hx _
  have : x = [] := List.length_eq_zero_iff.1 hx
  subst this
  refine ⟨[], 0, ?_, rfl, .inl rfl⟩
  unfold m_integer_trim
  rw [loopW_eq]
  simp [jp]
 | succ n ih =>
  intro x hx hm
  obtain ⟨z, d, rfl⟩ : ∃ z d, x = z ++ [d] := ⟨x.dropLast, x.getLast (by intro e; simp [e] at hx), (List.dropLast_concat_getLast _).symm⟩
  simp only [List.length_append, List.length_cons, List.length_nil, Nat.zero_add] at hx hm
  have hw : IntKind.wrap .i64 (((z ++ [d]).length : Int) - 1) = (z.length : Int) := by
   rw [w64 (by simp only [List.length_append, List.length_cons, List.length_nil]; omega) (by simp only [List.length_append, List.length_cons, List.length_nil]; omega)]
   simp only [List.length_append, List.length_cons, List.length_nil]; omega
  have hi : idx (z ++ [d]) ((z.length : Nat) : Int) = some d := by
   unfold idx
   rw [if_pos (by omega)]
   simp
  by_cases h0 : d = 0
  ·subst h0
   obtain ⟨y, k, h1, h2, h3⟩ := ih z (by omega) (by omega)
   refine ⟨y, k + 1, ?_, ?_, h3⟩
   ·rw [← h1]
    unfold m_integer_trim
    rw [loopW_eq]
    simp only [jp, hw, hi, Option.bind_some]
    rw [if_pos (by simp)]
    simp only [decide_true, if_true]
    rw [if_pos (by simp; omega)]
    have ht : (((z ++ [(0 : Int)]).take ((z.length : Nat) : Int).toNat).drop (0 : Int).toNat) = z := by simp
    simp only [ht]
   ·rw [h2, List.append_assoc]
    congr 1
    rw [show ([(0 : Int)] : List Int) = List.replicate 1 0 from rfl, List.replicate_append_replicate]
  ·refine ⟨z ++ [d], 0, ?_, by simp, .inr ⟨z, d, rfl, h0⟩⟩
   unfold m_integer_trim
   rw [loopW_eq]
   simp only [jp, hw, hi, Option.bind_some]
   rw [if_pos (by simp)]
   simp [h0]
theorem trim_spec {x : List Int} (hw : wfN x) (hm : x.length ≤ 9223372036854775807) : ∃ y, m_integer_trim x = some y ∧ valN y = valN x ∧ wfN y ∧ y.length ≤ x.length ∧ (y = [] ↔ valN x = 0) := by
 obtain ⟨y, k, h1, h2, h3⟩ := trim_eq _ x rfl hm
 have hv : valN y = valN x := by
  rw [h2, valN_app, valN_zeros (List.replicate k 0) (fun d hd => (List.mem_replicate.1 hd).2)]
  simp
 have hwy : wfN y := fun d hd => hw d (by rw [h2]; simp [hd])
 refine ⟨y, h1, hv, hwy, by rw [h2]; simp, ?_⟩
 constructor
 ·rintro rfl; rw [← hv]; rfl
 ·intro h
  rcases h3 with h3 | ⟨z, d, rfl, hd⟩
  ·exact h3
  ·exfalso
   have h4 := hwy d (by simp)
   rw [← hv, valN_app] at h
   have h5 : valN [d] = 0 := by
    rcases Nat.mul_eq_zero.1 (by omega : 4294967296 ^ z.length * valN [d] = 0) with h6 | h6
    ·have := Nat.pow_pos (n := z.length) (show 0 < 4294967296 by decide); omega
    ·exact h6
   simp only [valN] at h5
   omega
def bI (l : List UInt8) : List Int := l.map fun c => (c.toNat : Int)
theorem bI_back (l : List UInt8) : (bI l).map (fun n => UInt8.ofNat n.toNat) = l := by
 unfold bI
 rw [List.map_map]
 exact (List.map_congr_left fun c _ => by simp).trans (List.map_id l)
theorem bI_len (l : List UInt8) : (bI l).length = l.length := List.length_map _
theorem byte_at (xi m : Nat) (h : m < 4) : IntKind.wrap .u8 (Int.fdiv (xi : Int) (2 ^ (min ((IntKind.wrap .i64 (8 * (m : Int)))).toNat (IntKind.bits .u32)))) = ((xi / 256 ^ m % 256 : Nat) : Int) := by
 rw [wu8, w64 (by omega) (by omega)]
 have hm : m = 0 ∨ m = 1 ∨ m = 2 ∨ m = 3 := by omega
 rcases hm with rfl | rfl | rfl | rfl
 ·have : (2 : Int) ^ (min ((8 * ((0 : Nat) : Int))).toNat (IntKind.bits .u32)) = 1 := by decide
  rw [this, Int.fdiv_eq_ediv_of_nonneg _ (by omega)]; omega
 ·have : (2 : Int) ^ (min ((8 * ((1 : Nat) : Int))).toNat (IntKind.bits .u32)) = 256 := by decide
  rw [this, Int.fdiv_eq_ediv_of_nonneg _ (by omega)]; omega
 ·have : (2 : Int) ^ (min ((8 * ((2 : Nat) : Int))).toNat (IntKind.bits .u32)) = 65536 := by decide
  rw [this, Int.fdiv_eq_ediv_of_nonneg _ (by omega)]; omega
 ·have : (2 : Int) ^ (min ((8 * ((3 : Nat) : Int))).toNat (IntKind.bits .u32)) = 16777216 := by decide
  rw [this, Int.fdiv_eq_ediv_of_nonneg _ (by omega)]; omega
theorem byte_low {N xi H m : Nat} (h : m < 4) (hN : N = xi + 4294967296 * H) : N / 256 ^ m % 256 = xi / 256 ^ m % 256 := by
 have hm : m = 0 ∨ m = 1 ∨ m = 2 ∨ m = 3 := by omega
 rcases hm with rfl | rfl | rfl | rfl <;> omega
theorem fits1 {n : Nat} (h : n ≤ 35184372088832) : fits 1 n := by
 unfold fits
 simp only [maxLen]
 omega
theorem bytes_loop {x2 : List Int} {i : Int} {xi : Nat} (hi : idx x2 i = some (xi : Int)) {N H K : Nat} (hx : xi < 4294967296) (hN : N = xi + 4294967296 * H) (hK : N < 256 ^ K) (hK2 : K ≤ 35184372088830) :
    loopW (S := Int × (List Int)) (X := (List Int)) (fun a10 =>
                if 0 ≤ a10.1 then
                  jp (fun (a14 : (List Int)) =>
                    some (Stp.next (IntKind.wrap .i64 (a10.1 - 1), a14)))
                    fun k16 =>
                    (idx x2 i).bind fun x17 =>
                    if 0 ≤ (IntKind.wrap .i64 (8 * a10.1)) then
                      jp (fun (a20 : Bool) =>
                        if a20 = true then
                          if fits 1 ((a10.2 : List Int).length + ([IntKind.wrap .u8 (Int.fdiv x17 (2 ^ (min ((IntKind.wrap .i64 (8 * a10.1))).toNat (IntKind.bits .u32))))]).length) then
                            k16 (a10.2 ++ [IntKind.wrap .u8 (Int.fdiv x17 (2 ^ (min ((IntKind.wrap .i64 (8 * a10.1))).toNat (IntKind.bits .u32))))])
                          else none
                        else
                          k16 a10.2)
                        fun k22 =>
                        if (IntKind.wrap .u8 (Int.fdiv x17 (2 ^ (min ((IntKind.wrap .i64 (8 * a10.1))).toNat (IntKind.bits .u32))))) ≠ 0 then
                          k22 true
                        else
                          k22 (decide (0 < (((a10.2).length : Nat) : Int)))
                    else none
                else
                  some (Stp.exit a10.2)) (3, bI (be H)) = some (bI (be N)) := by
  have hle : ∀ M, M ≤ N → (be M).length ≤ K := fun M hM => be_len K (by omega)
  refine loopW_to (fun s : Int × List Int => ∃ m : Nat, m ≤ 4 ∧ s = ((m : Int) - 1, bI (be (N / 256 ^ m)))) (fun s => (s.1 + 1).toNat) (fun s hs => ?_) ⟨4, Nat.le_refl _, by
      have : N / 256 ^ 4 = H := by omega
      rw [this]; rfl⟩
  · obtain ⟨m, hm, rfl⟩ := hs
    dsimp only
    cases m with
    | zero =>
      right
      rw [if_neg (by omega)]
      simp
    | succ j =>
      left
      have e : (((j + 1 : Nat) : Int) - 1) = (j : Int) := by omega
      rw [e, if_pos (by omega)]
      simp only [jp, hi, Option.bind_some, byte_at xi j (by omega)]
      rw [if_pos (by rw [w64 (by omega) (by omega)]; omega)]
      have hb := byte_low (m := j) (by omega) hN
      have hs : N / 256 ^ j = 256 * (N / 256 ^ (j + 1)) + xi / 256 ^ j % 256 := by
        rw [← hb, Nat.pow_succ, ← Nat.div_div_eq_div_mul]
        omega
      have hl2 := hle (N / 256 ^ (j + 1)) (Nat.div_le_self _ _)
      generalize xi / 256 ^ j % 256 = c at *
      generalize N / 256 ^ (j + 1) = M at *
      have hc : c < 256 := by
        rw [← hb]; exact Nat.mod_lt _ (by decide)
      have hwj : IntKind.wrap .i64 ((j : Int) - 1) = (j : Int) - 1 := w64 (by omega) (by omega)
      have app : fits 1 ((bI (be M)).length + ([(c : Int)]).length) := fits1 (by simp [bI_len]; omega)
      have hcc : [((c : Nat) : Int)] = bI [UInt8.ofNat c] := by simp [bI]; omega
      by_cases hz : M = 0 ∧ c = 0
      · obtain ⟨rfl, rfl⟩ := hz
        simp only [be0, bI, List.map_nil, List.length_nil]
        refine ⟨_, rfl, ⟨j, by omega, ?_⟩, ?_⟩
        · simp only [hwj, Prod.mk.injEq, true_and]
          rw [hs, Nat.mul_zero, be0]; simp
        · simp [hwj]
      · have hbe := be_step M c hc hz
        by_cases hc0 : c = 0
        · subst hc0
          have hM : M ≠ 0 := fun e => hz ⟨e, rfl⟩
          rw [if_neg (by simp)]
          have : decide (0 < (((bI (be M)).length : Nat) : Int)) = true := by
            have := be_pos hM
            simp [bI_len]; omega
          simp only [this, if_true]
          rw [if_pos app]
          refine ⟨_, rfl, ⟨j, by omega, ?_⟩, ?_⟩
          · simp only [hwj, Prod.mk.injEq, true_and]
            rw [hs, hbe, hcc]; simp [bI]
          · simp [hwj]
        · rw [if_pos (by omega)]
          simp only [if_true]
          rw [if_pos app]
          refine ⟨_, rfl, ⟨j, by omega, ?_⟩, ?_⟩
          · simp only [hwj, Prod.mk.injEq, true_and]
            rw [hs, hbe, hcc]; simp [bI]
          · simp [hwj]
theorem number_spec {x : List Int} (hw : wfN x) (hm : x.length ≤ 1099511627776) (neg : Bool) : m_integer_number neg x = some (if valN x = 0 then (false, []) else (neg, be (valN x))) := by
  obtain ⟨y, h1, hv, hwy, hyl, hy0⟩ := trim_spec hw (by omega)
  unfold m_integer_number
  rw [h1, Option.bind_some]
  by_cases h0 : valN x = 0
  · rw [if_pos h0]
    have := hy0.2 h0
    subst this
    simp
  · rw [if_neg h0]
    have hy : y ≠ [] := fun e => h0 (hy0.1 e)
    have hyp : 0 < y.length := List.length_pos_iff.2 hy
    rw [if_neg (by omega), if_pos (by rw [w64 (by omega) (by omega)]; omega)]
    have main : ∃ b, loopW (S := Int × (List Int)) (X := (List Int)) (fun a6 =>
          if 0 ≤ a6.1 then
            (loopW (S := Int × (List Int)) (X := (List Int)) (fun a10 =>
                if 0 ≤ a10.1 then
                  jp (fun (a14 : (List Int)) =>
                    some (Stp.next (IntKind.wrap .i64 (a10.1 - 1), a14)))
                    fun k16 =>
                    (idx y a6.1).bind fun x17 =>
                    if 0 ≤ (IntKind.wrap .i64 (8 * a10.1)) then
                      jp (fun (a20 : Bool) =>
                        if a20 = true then
                          if fits 1 ((a10.2 : List Int).length + ([IntKind.wrap .u8 (Int.fdiv x17 (2 ^ (min ((IntKind.wrap .i64 (8 * a10.1))).toNat (IntKind.bits .u32))))]).length) then
                            k16 (a10.2 ++ [IntKind.wrap .u8 (Int.fdiv x17 (2 ^ (min ((IntKind.wrap .i64 (8 * a10.1))).toNat (IntKind.bits .u32))))])
                          else none
                        else
                          k16 a10.2)
                        fun k22 =>
                        if (IntKind.wrap .u8 (Int.fdiv x17 (2 ^ (min ((IntKind.wrap .i64 (8 * a10.1))).toNat (IntKind.bits .u32))))) ≠ 0 then
                          k22 true
                        else
                          k22 (decide (0 < (((a10.2).length : Nat) : Int)))
                    else none
                else
                  some (Stp.exit a10.2)) (3, a6.2)).bind fun a26 =>
            some (Stp.next (IntKind.wrap .i64 (a6.1 - 1), a26))
          else
            some (Stp.exit a6.2)) (IntKind.wrap .i64 (((y).length : Int) - 1), List.replicate (0 : Int).toNat (0 : Int)) = some b ∧ b = bI (be (valN y)) := by
      refine loopW_inv (fun s : Int × List Int => ∃ i : Nat, i ≤ y.length ∧ s = ((i : Int) - 1, bI (be (valN (y.drop i))))) (fun s => (s.1 + 1).toNat) (fun b => b = bI (be (valN y))) (fun s hs => ?_) _ ⟨y.length, Nat.le_refl _, by
        rw [w64 (by omega) (by omega)]
        simp [valN, be0, bI]⟩
      obtain ⟨i, hi, rfl⟩ := hs
      dsimp only
      cases i with
      | zero =>
        right
        rw [if_neg (by omega)]
        exact ⟨_, rfl, by simp⟩
      | succ j =>
        left
        have e : (((j + 1 : Nat) : Int) - 1) = (j : Int) := by omega
        rw [e, if_pos (by omega)]
        have hdj : y.drop j = y[j] :: y.drop (j + 1) := List.drop_eq_getElem_cons (by omega)
        have hd := hwy y[j] (List.getElem_mem _)
        have hix : idx y (j : Int) = some ((y[j].toNat : Nat) : Int) := by
          unfold idx
          rw [if_pos (by omega)]
          simp only [Int.toNat_natCast, List.getElem?_eq_getElem (show j < y.length by omega)]
          congr 1
          omega
        have hwd : wfN (y.drop j) := fun d hd => hwy d (List.mem_of_mem_drop hd)
        have hlt := valN_lt hwd
        have hK : valN (y.drop j) < 256 ^ (4 * y.length) := by
          refine Nat.lt_of_lt_of_le hlt ?_
          rw [show (4294967296 : Nat) = 256 ^ 4 by decide, ← Nat.pow_mul]
          exact Nat.pow_le_pow_right (by decide) (by simp; omega)
        rw [bytes_loop hix (H := valN (y.drop (j + 1))) (N := valN (y.drop j)) (K := 4 * y.length) (by omega) (by rw [hdj, valN]) hK (by omega)]
        refine ⟨_, rfl, ⟨j, by omega, ?_⟩, ?_⟩
        · rw [w64 (by omega) (by omega)]
        · dsimp only
          rw [w64 (by omega) (by omega)]; omega
    obtain ⟨b, hb, rfl⟩ := main
    rw [hb, Option.bind_some, bI_back, hv]
theorem of_spec {n : Int} (h0 : 0 ≤ n) (h1 : n ≤ 9223372036854775807) : m_integer_Of n = some (false, be n.toNat) := by
 unfold m_integer_Of
 simp only [jp]
 rw [if_neg (by omega)]
 have e : IntKind.wrap .u64 n = n := by rw [wu64]; omega
 have e2 : Int.fdiv n (2 ^ (min (32 : Int).toNat (IntKind.bits .u64))) = n / 4294967296 := by
  have : (2 : Int) ^ (min (32 : Int).toNat (IntKind.bits .u64)) = 4294967296 := by decide
  rw [this, Int.fdiv_eq_ediv_of_nonneg _ (by omega)]
 rw [e, e2, wu32, wu32]
 have hv : valN [n % 4294967296, n / 4294967296 % 4294967296] = n.toNat := by
  simp only [valN]; omega
 rw [number_spec (x := [n % 4294967296, n / 4294967296 % 4294967296]) (by intro d hd; simp at hd; omega) (by simp), hv, Option.bind_some]
 by_cases h : n.toNat = 0
 ·rw [if_pos h, h, be0]
 ·rw [if_neg h]
  have : decide (n < 0) = false := by simp; omega
  rw [this]
theorem valB_cons (c : UInt8) (l : List UInt8) : valB (c :: l) = c.toNat * 256 ^ l.length + valB l := by
 have gen : ∀ (l : List UInt8) (a : Nat), l.foldl (fun a b => 256 * a + b.toNat) a = a * 256 ^ l.length + valB l := by
  intro l
  induction l with
  | nil => intro a; simp [valB]
  | cons b l ih =>
   intro a
   have e1 := ih (256 * a + b.toNat)
   have e2 := ih b.toNat
   simp only [List.foldl_cons, valB, List.length_cons, Nat.pow_succ] at e1 e2 ⊢
   rw [e1, show 256 * 0 + b.toNat = b.toNat by omega, e2, Nat.add_mul, Nat.mul_comm 256 a, Nat.mul_assoc, Nat.mul_comm 256 (256 ^ l.length)]
   omega
 have := gen l c.toNat
 simp only [valB, List.foldl_cons, Nat.mul_zero, Nat.zero_add] at this ⊢
 exact this
theorem valB_lt : ∀ l : List UInt8, valB l < 256 ^ l.length
 | [] => by simp [valB]
 | c :: l => by
  rw [valB_cons, List.length_cons, Nat.pow_succ]
  have h1 := valB_lt l
  have h2 := c.toNat_lt
  have h3 : c.toNat * 256 ^ l.length ≤ 255 * 256 ^ l.length := Nat.mul_le_mul_right _ (by omega)
  omega
theorem valN_set : ∀ (x : List Int) (q : Nat) (d : Int) (h : q < x.length), valN (x.set q d) + 4294967296 ^ q * x[q].toNat = valN x + 4294967296 ^ q * d.toNat
 | [], _, _, h => by simp at h
 | e :: l, 0, d, _ => by simp [valN]; omega
 | e :: l, q + 1, d, h => by
  have ih := valN_set l q d (by simpa using h)
  simp only [List.set_cons_succ, valN, List.getElem_cons_succ, Nat.pow_succ]
  have a1 : 4294967296 ^ q * 4294967296 * (l[q]'(by simpa using h)).toNat = 4294967296 * (4294967296 ^ q * (l[q]'(by simpa using h)).toNat) := by rw [Nat.mul_comm (4294967296 ^ q), Nat.mul_assoc]
  have a2 : 4294967296 ^ q * 4294967296 * d.toNat = 4294967296 * (4294967296 ^ q * d.toNat) := by rw [Nat.mul_comm (4294967296 ^ q), Nat.mul_assoc]
  omega
theorem wfN_set {x : List Int} (h : wfN x) {q : Nat} {d : Int} (hd : 0 ≤ d ∧ d < 4294967296) : wfN (x.set q d) := fun e he => by
 rcases List.mem_or_eq_of_mem_set he with h1 | rfl
 ·exact h e h1
 ·exact hd
theorem valN_drop (x : List Int) (q : Nat) : valN x = valN (x.take q) + 4294967296 ^ (x.take q).length * valN (x.drop q) := by
 have := valN_app (x.take q) (x.drop q)
 rwa [List.take_append_drop] at this
theorem or_case (a c m : Nat) (hm : m < 4) (ha : a < 256 ^ m) (hc : c < 256) :
  IntKind.wrap .u32 (BitVec.ofInt (IntKind.bits .u32) (a : Int) ||| BitVec.ofInt (IntKind.bits .u32) (IntKind.wrap .u32 ((IntKind.wrap .u32 (c : Int)) * 2 ^ (min ((IntKind.wrap .i64 (8 * (m : Int)))).toNat (IntKind.bits .u32))))).toNat = ((a + c * 256 ^ m : Nat) : Int) := by
 have key : ∀ k : Nat, 256 ^ m = 2 ^ k → k < 25 → IntKind.wrap .u32 (BitVec.ofInt (IntKind.bits .u32) (a : Int) ||| BitVec.ofInt (IntKind.bits .u32) (((c * 2 ^ k : Nat) : Int))).toNat = ((a + c * 256 ^ m : Nat) : Int) := by
  intro k hk hk2
  have hlt : c * 2 ^ k < 4294967296 := by
   have h1 : (2 : Nat) ^ k ≤ 2 ^ 24 := Nat.pow_le_pow_right (by decide) (by omega)
   have h2 : c * 2 ^ k ≤ 255 * 2 ^ 24 := Nat.mul_le_mul (by omega) h1
   omega
  have ha2 : a < 2 ^ k := by rw [← hk]; exact ha
  have ha3 : a < 4294967296 := by
   have h1 : (2 : Nat) ^ k ≤ 2 ^ 24 := Nat.pow_le_pow_right (by decide) (by omega)
   omega
  rw [BitVec.toNat_or]
  have e1 : (BitVec.ofInt (IntKind.bits .u32) ((a : Nat) : Int)).toNat = a := by
   rw [BitVec.toNat_ofInt]
   show (((a : Nat) : Int) % ((2 ^ 32 : Nat) : Int)).toNat = a
   omega
  have e2 : (BitVec.ofInt (IntKind.bits .u32) ((c * 2 ^ k : Nat) : Int)).toNat = c * 2 ^ k := by
   rw [BitVec.toNat_ofInt]
   show (((c * 2 ^ k : Nat) : Int) % ((2 ^ 32 : Nat) : Int)).toNat = c * 2 ^ k
   omega
  rw [e1, e2, Nat.or_comm, Nat.mul_comm c, ← Nat.two_pow_add_eq_or_of_lt ha2, hk, wu32, Nat.mul_comm c]
  have hlt2 : 2 ^ k * c + a < 4294967296 := by
   have h1 : (2 : Nat) ^ k ≤ 2 ^ 24 := Nat.pow_le_pow_right (by decide) (by omega)
   have h2 : 2 ^ k * c ≤ 2 ^ k * 255 := Nat.mul_le_mul_left _ (by omega)
   omega
  omega
 rw [wu32 (c : Int), w64 (by omega) (by omega)]
 have hcm : (c : Int) % 4294967296 = c := by omega
 rw [hcm]
 have hm' : m = 0 ∨ m = 1 ∨ m = 2 ∨ m = 3 := by omega
 rcases hm' with rfl | rfl | rfl | rfl
 ·rw [← key 0 (by decide) (by decide), wu32 ((c : Int) * _), show (2 : Int) ^ (min ((8 * ((0 : Nat) : Int))).toNat (IntKind.bits .u32)) = 1 by decide]
  congr 5; omega
 ·rw [← key 8 (by decide) (by decide), wu32 ((c : Int) * _), show (2 : Int) ^ (min ((8 * ((1 : Nat) : Int))).toNat (IntKind.bits .u32)) = 256 by decide]
  congr 5; omega
 ·rw [← key 16 (by decide) (by decide), wu32 ((c : Int) * _), show (2 : Int) ^ (min ((8 * ((2 : Nat) : Int))).toNat (IntKind.bits .u32)) = 65536 by decide]
  congr 5; omega
 ·rw [← key 24 (by decide) (by decide), wu32 ((c : Int) * _), show (2 : Int) ^ (min ((8 * ((3 : Nat) : Int))).toNat (IntKind.bits .u32)) = 16777216 by decide]
  congr 5; omega
theorem digits_spec {neg : Bool} {l : List UInt8} (hl : l.length ≤ 1099511627776) : ∃ y, m_integer_digits (neg, l) = some y ∧ valN y = valB l ∧ wfN y ∧ y.length ≤ (l.length + 3) / 4 := by
  unfold m_integer_digits
  dsimp only
  have hL : IntKind.wrap .i64 (Int.tdiv (IntKind.wrap .i64 ((l.length : Int) + 3)) 4) = (((l.length + 3) / 4 : Nat) : Int) := by
    rw [w64 (n := (l.length : Int) + 3) (by omega) (by omega), Int.tdiv_eq_ediv_of_nonneg (by omega), w64 (by omega) (by omega)]
    omega
  rw [hL]
  generalize hLL : (l.length + 3) / 4 = L
  rw [if_pos (by omega), Int.toNat_natCast]
  have main : ∃ z, loopW (S := Int × (List Int)) (X := (List Int)) (fun a3 =>
        if a3.1 < ((l).length : Int) then
          (idx l (IntKind.wrap .i64 ((IntKind.wrap .i64 (((l).length : Int) - 1)) - a3.1))).bind fun x7 =>
          (idx a3.2 (IntKind.wrap .i64 (Int.tdiv a3.1 4))).bind fun x9 =>
          (idx a3.2 (IntKind.wrap .i64 (Int.tdiv a3.1 4))).bind fun x11 =>
          if 0 ≤ (IntKind.wrap .i64 (8 * (Int.tmod a3.1 4))) then
            (idx a3.2 (IntKind.wrap .i64 (Int.tdiv a3.1 4))).bind fun x14 =>
            some (Stp.next (IntKind.wrap .i64 (a3.1 + 1), (a3.2).set (IntKind.wrap .i64 (Int.tdiv a3.1 4)).toNat (IntKind.wrap .u32 (BitVec.ofInt (IntKind.bits .u32) x11 ||| BitVec.ofInt (IntKind.bits .u32) (IntKind.wrap .u32 ((IntKind.wrap .u32 (x7.toNat : Int)) * 2 ^ (min ((IntKind.wrap .i64 (8 * (Int.tmod a3.1 4)))).toNat (IntKind.bits .u32))))).toNat)))
          else none
        else
          some (Stp.exit a3.2)) (0, List.replicate L (0 : Int)) = some z ∧ (z.length = L ∧ wfN z ∧ valN z = valB l) := by
    refine loopN l.length (fun i s => ∃ out : List Int, s = ((i : Int), out) ∧ out.length = L ∧ wfN out ∧ valN out = valB (l.drop (l.length - i))) (fun i s hi hs => ?_) (fun s hs => ?_) 0 _ (Nat.zero_le _) ⟨_, rfl, by simp, ?_, ?_⟩
    · left
      obtain ⟨out, rfl, ho, hw, hv⟩ := hs
      dsimp only
      rw [if_pos (lt_int hi)]
      have e1 : IntKind.wrap .i64 (IntKind.wrap .i64 ((l.length : Int) - 1) - (i : Int)) = ((l.length - 1 - i : Nat) : Int) := by
        rw [w64 (n := (l.length : Int) - 1) (by omega) (by omega), w64 (by omega) (by omega)]; omega
      have e2 : IntKind.wrap .i64 (Int.tdiv (i : Int) 4) = ((i / 4 : Nat) : Int) := by
        rw [Int.tdiv_eq_ediv_of_nonneg (by omega), w64 (by omega) (by omega)]; omega
      have e3 : Int.tmod (i : Int) 4 = ((i % 4 : Nat) : Int) := by
        rw [Int.tmod_eq_emod_of_nonneg (by omega)]; omega
      have hq : i / 4 < out.length := by omega
      rw [e1, e2, e3, idx_nat, idx_nat, List.getElem?_eq_getElem (show l.length - 1 - i < l.length by omega), List.getElem?_eq_getElem hq]
      simp only [Option.bind_some, Int.toNat_natCast]
      rw [if_pos (by rw [w64 (by omega) (by omega)]; omega)]
      have hd := hw out[i / 4] (List.getElem_mem _)
      obtain ⟨a, ha⟩ := Int.eq_ofNat_of_zero_le hd.1
      have hdrop : l.drop (l.length - (i + 1)) = l[l.length - 1 - i] :: l.drop (l.length - i) := by
        rw [List.drop_eq_getElem_cons (show l.length - (i + 1) < l.length by omega)]
        congr 1
        · congr 1; omega
        · congr 1; omega
      have hvl : valN out < 256 ^ i := by
        rw [hv]
        have := valB_lt (l.drop (l.length - i))
        rwa [List.length_drop, show l.length - (l.length - i) = i by omega] at this
      have hpow : (4294967296 : Nat) ^ (i / 4) * 256 ^ (i % 4) = 256 ^ i := by
        rw [show (4294967296 : Nat) = 256 ^ 4 by decide, ← Nat.pow_mul, ← Nat.pow_add]
        congr 1; omega
      have hp0 : 0 < (4294967296 : Nat) ^ (i / 4) := Nat.pow_pos (by decide)
      have ha2 : a < 256 ^ (i % 4) := by
        have h1 := valN_drop out (i / 4)
        rw [List.length_take, Nat.min_eq_left (by omega), List.drop_eq_getElem_cons hq, valN, ha, Int.toNat_natCast] at h1
        have h2 : 4294967296 ^ (i / 4) * a ≤ 4294967296 ^ (i / 4) * (a + 4294967296 * valN (out.drop (i / 4 + 1))) := Nat.mul_le_mul_left _ (by omega)
        have h3 : 4294967296 ^ (i / 4) * a < 4294967296 ^ (i / 4) * 256 ^ (i % 4) := by rw [hpow]; omega
        exact Nat.lt_of_mul_lt_mul_left h3
      have hc := (l[l.length - 1 - i]).toNat_lt
      rw [ha, or_case a _ (i % 4) (by omega) ha2 (by omega)]
      refine ⟨_, rfl, _, Prod.ext (nx (n := l.length) (by omega) hi) rfl, by simp [ho], wfN_set hw ?_, ?_⟩
      · have h1 : (256 : Nat) ^ (i % 4) ≤ 256 ^ 3 := Nat.pow_le_pow_right (by decide) (by omega)
        have h2 : (l[l.length - 1 - i]).toNat * 256 ^ (i % 4) ≤ 255 * 256 ^ (i % 4) := Nat.mul_le_mul_right _ (by omega)
        omega
      · have h1 := valN_set out (i / 4) ((a + (l[l.length - 1 - i]).toNat * 256 ^ (i % 4) : Nat) : Int) hq
        rw [ha, Int.toNat_natCast, Int.toNat_natCast, Nat.mul_add] at h1
        rw [hdrop, valB_cons, List.length_drop, show l.length - (l.length - i) = i by omega, ← hv]
        have h2 : 4294967296 ^ (i / 4) * ((l[l.length - 1 - i]).toNat * 256 ^ (i % 4)) = (l[l.length - 1 - i]).toNat * 256 ^ i := by
          rw [← hpow, Nat.mul_left_comm]
        omega
    · obtain ⟨out, rfl, ho, hw, hv⟩ := hs
      dsimp only
      rw [if_neg (by omega)]
      refine ⟨_, rfl, ho, hw, ?_⟩
      rw [hv, Nat.sub_self, List.drop_zero]
    · intro d hd
      rw [(List.mem_replicate.1 hd).2]; omega
    · rw [valN_zeros _ fun d hd => (List.mem_replicate.1 hd).2]
      simp [valB]
  obtain ⟨z, hz, h1, h2, h3⟩ := main
  rw [hz, Option.bind_some]
  obtain ⟨y, hy, hv, hwy, hyl, _⟩ := trim_spec h2 (by omega)
  exact ⟨y, by rw [hy, Option.bind_some], by rw [hv, h3], hwy, by omega⟩
theorem valN_snoc (x : List Int) (d : Int) : valN (x ++ [d]) = valN x + 4294967296 ^ x.length * d.toNat := by rw [valN_app]; simp [valN]
theorem take_snoc {x : List Int} {i : Nat} (h : i < x.length) : x.take (i + 1) = x.take i ++ [x[i]] := (List.take_append_getElem h).symm
theorem add_core {u v : List Int} (hu : wfN u) (hv : wfN v) (hlu : u.length ≤ 1099511627776) (hlv : v.length ≤ u.length) :
    ∃ z, ((loopW (S := Int × Int × (List Int)) (X := (List Int) × Int) (fun a6 =>
          if a6.2.1 < ((u).length : Int) then
            (idx u a6.2.1).bind fun x10 =>
            jp (fun (a12 : Int) =>
              (idx a6.2.2 a6.2.1).bind fun x15 =>
              some (Stp.next (Int.fdiv a12 (2 ^ (min (32 : Int).toNat (IntKind.bits .u64))), IntKind.wrap .i64 (a6.2.1 + 1), (a6.2.2).set (a6.2.1).toNat (IntKind.wrap .u32 a12))))
              fun k14 =>
              if a6.2.1 < ((v).length : Int) then
                (idx v a6.2.1).bind fun x17 =>
                k14 (IntKind.wrap .u64 ((IntKind.wrap .u64 ((IntKind.wrap .u64 x10) + a6.1)) + (IntKind.wrap .u64 x17)))
              else
                k14 (IntKind.wrap .u64 ((IntKind.wrap .u64 x10) + a6.1))
          else
            some (Stp.exit (a6.2.2, a6.1))) (0, 0, List.replicate (IntKind.wrap .i64 (((u).length : Int) + 1)).toNat (0 : Int))).bind fun a19 =>
      (idx a19.1 ((u).length : Int)).bind fun x21 =>
      (m_integer_trim ((a19.1).set (((u).length : Int)).toNat (IntKind.wrap .u32 a19.2))).bind fun x23 =>
      some x23) = some z ∧ valN z = valN u + valN v ∧ wfN z ∧ z.length ≤ u.length + 1 := by
  have hL : IntKind.wrap .i64 ((u.length : Int) + 1) = ((u.length + 1 : Nat) : Int) := by rw [w64 (by omega) (by omega)]; omega
  rw [hL, Int.toNat_natCast]
  have hsh : (2 : Int) ^ (min (32 : Int).toNat (IntKind.bits .u64)) = 4294967296 := by decide
  simp only [hsh]
  have main : ∃ r, loopW (S := Int × Int × (List Int)) (X := (List Int) × Int) (fun a6 =>
          if a6.2.1 < ((u).length : Int) then
            (idx u a6.2.1).bind fun x10 =>
            jp (fun (a12 : Int) =>
              (idx a6.2.2 a6.2.1).bind fun x15 =>
              some (Stp.next (Int.fdiv a12 4294967296, IntKind.wrap .i64 (a6.2.1 + 1), (a6.2.2).set (a6.2.1).toNat (IntKind.wrap .u32 a12))))
              fun k14 =>
              if a6.2.1 < ((v).length : Int) then
                (idx v a6.2.1).bind fun x17 =>
                k14 (IntKind.wrap .u64 ((IntKind.wrap .u64 ((IntKind.wrap .u64 x10) + a6.1)) + (IntKind.wrap .u64 x17)))
              else
                k14 (IntKind.wrap .u64 ((IntKind.wrap .u64 x10) + a6.1))
          else
            some (Stp.exit (a6.2.2, a6.1))) (0, 0, List.replicate (u.length + 1) (0 : Int)) = some r ∧ (r.1.length = u.length + 1 ∧ wfN r.1 ∧ (0 ≤ r.2 ∧ r.2 ≤ 1) ∧ ∃ h : u.length < r.1.length, r.1[u.length] = 0 ∧ valN r.1 + 4294967296 ^ u.length * r.2.toNat = valN u + valN v) := by
    refine loopN u.length (fun i s => ∃ (c : Nat) (out : List Int), s = ((c : Int), (i : Int), out) ∧ out.length = u.length + 1 ∧ wfN out ∧ c ≤ 1 ∧ (∀ j (h : j < out.length), i ≤ j → out[j] = 0) ∧ valN out + 4294967296 ^ i * c = valN (u.take i) + valN (v.take i)) (fun i s hi hs => ?_) (fun s hs => ?_) 0 _ (Nat.zero_le _) ⟨0, _, rfl, by simp, ?_, by omega, ?_, ?_⟩
    · left
      obtain ⟨c, out, rfl, ho, hw, hc, hz, hv2⟩ := hs
      dsimp only
      rw [if_pos (lt_int hi), idx_nat, List.getElem?_eq_getElem hi]
      have hio : i < out.length := by omega
      have ht := hu u[i] (List.getElem_mem _)
      simp only [jp, Option.bind_some, idx_nat, List.getElem?_eq_getElem hio, Int.toNat_natCast]
      have fin : ∀ t : Nat, t < 4294967296 → (t : Int) = (if h : i < v.length then v[i] else 0) →
          ∃ s', some (Stp.next (X := (List Int) × Int) (Int.fdiv ((u[i] + c + t : Int)) 4294967296, IntKind.wrap .i64 ((i : Int) + 1), out.set i (IntKind.wrap .u32 (u[i] + c + t)))) = some (.next s') ∧ ∃ (c : Nat) (out : List Int), s' = ((c : Int), ((i + 1 : Nat) : Int), out) ∧ out.length = u.length + 1 ∧ wfN out ∧ c ≤ 1 ∧ (∀ j (h : j < out.length), i + 1 ≤ j → out[j] = 0) ∧ valN out + 4294967296 ^ (i + 1) * c = valN (u.take (i + 1)) + valN (v.take (i + 1)) := by
        intro t ht2 hte
        obtain ⟨a, ha⟩ := Int.eq_ofNat_of_zero_le ht.1
        rw [ha]
        have e1 : Int.fdiv ((a : Int) + c + t) 4294967296 = (((a + c + t) / 4294967296 : Nat) : Int) := by
          rw [Int.fdiv_eq_ediv_of_nonneg _ (by omega)]; omega
        have e2 : IntKind.wrap .u32 ((a : Int) + c + t) = (((a + c + t) % 4294967296 : Nat) : Int) := by rw [wu32]; omega
        rw [e1, e2, nx (n := u.length) (by omega) hi]
        refine ⟨_, rfl, (a + c + t) / 4294967296, _, rfl, by simp [ho], wfN_set hw (by omega), by omega, ?_, ?_⟩
        · intro j hj hij
          rw [List.getElem_set_ne (by omega)]
          exact hz j (by simpa using hj) (by omega)
        · have h1 := valN_set out i (((a + c + t) % 4294967296 : Nat) : Int) hio
          rw [hz i hio (Nat.le_refl _), Int.toNat_natCast] at h1
          have hut : valN (u.take (i + 1)) = valN (u.take i) + 4294967296 ^ i * a := by
            rw [take_snoc hi, valN_snoc, ha, Int.toNat_natCast, List.length_take, Nat.min_eq_left (by omega)]
          have hvt : valN (v.take (i + 1)) = valN (v.take i) + 4294967296 ^ i * t := by
            by_cases hiv : i < v.length
            · rw [dif_pos hiv] at hte
              rw [take_snoc hiv, valN_snoc, ← hte, Int.toNat_natCast, List.length_take, Nat.min_eq_left (by omega)]
            · rw [dif_neg hiv] at hte
              have : t = 0 := by omega
              subst this
              rw [List.take_of_length_le (by omega), List.take_of_length_le (by omega)]; omega
          rw [hut, hvt, Nat.pow_succ]
          have h2 : 4294967296 ^ i * 4294967296 * ((a + c + t) / 4294967296) + 4294967296 ^ i * ((a + c + t) % 4294967296) = 4294967296 ^ i * (a + c + t) := by
            rw [Nat.mul_assoc, ← Nat.mul_add, Nat.div_add_mod]
          rw [Nat.mul_add, Nat.mul_add] at h2
          simp only [Int.toNat_zero, Nat.mul_zero, Nat.add_zero] at h1
          omega
      have e0 : IntKind.wrap .u64 (IntKind.wrap .u64 u[i] + (c : Int)) = u[i] + c := by rw [wu64, wu64]; omega
      by_cases hiv : i < v.length
      · rw [if_pos (lt_int hiv), List.getElem?_eq_getElem hiv, Option.bind_some]
        have hvi := hv v[i] (List.getElem_mem _)
        have := fin v[i].toNat (by omega) (by rw [dif_pos hiv]; omega)
        rw [show ((v[i].toNat : Nat) : Int) = v[i] by omega] at this
        have e3 : IntKind.wrap .u64 (u[i] + c + IntKind.wrap .u64 v[i]) = u[i] + c + v[i] := by rw [wu64, wu64]; omega
        rw [e0, e3]
        exact this
      · rw [if_neg (by omega), e0]
        have := fin 0 (by decide) (by rw [dif_neg hiv]; rfl)
        simpa using this
    · obtain ⟨c, out, rfl, ho, hw, hc, hz, hv2⟩ := hs
      dsimp only
      rw [if_neg (by omega)]
      refine ⟨_, rfl, ho, hw, by omega, by dsimp only; omega, hz _ _ (Nat.le_refl _), ?_⟩
      rw [List.take_of_length_le (Nat.le_refl _), List.take_of_length_le hlv] at hv2
      simpa using hv2
    · intro d hd
      rw [(List.mem_replicate.1 hd).2]; omega
    · intro j hj _
      simp
    · rw [valN_zeros _ fun d hd => (List.mem_replicate.1 hd).2]
      simp [valN]
  obtain ⟨⟨out, c⟩, hr, ho, hw, hc, hlt, h0, hval⟩ := main
  rw [hr, Option.bind_some]
  dsimp only at ho hw hc hlt h0 hval ⊢
  rw [idx_nat, List.getElem?_eq_getElem hlt, Option.bind_some, Int.toNat_natCast]
  have hc2 : IntKind.wrap .u32 c = c := by rw [wu32]; omega
  rw [hc2]
  have hwz : wfN (out.set u.length c) := wfN_set hw (by omega)
  obtain ⟨y, hy, hv2, hwy, hyl, _⟩ := trim_spec hwz (by simp [ho]; omega)
  refine ⟨y, by rw [hy, Option.bind_some], ?_, hwy, by simp [ho] at hyl; omega⟩
  have h1 := valN_set out u.length c hlt
  rw [h0] at h1
  simp only [Int.toNat_zero, Nat.mul_zero, Nat.add_zero] at h1
  rw [hv2, h1, hval]
theorem add_spec {x y : List Int} (hx : wfN x) (hy : wfN y) (lx : x.length ≤ 1099511627776) (ly : y.length ≤ 1099511627776) :
  ∃ z, m_integer_add x y = some z ∧ valN z = valN x + valN y ∧ wfN z ∧ z.length ≤ max x.length y.length + 1 := by
 unfold m_integer_add
 simp only [jp]
 by_cases h : x.length < y.length
 ·rw [if_pos (lt_int h), if_pos (by rw [w64 (by omega) (by omega)]; omega)]
  obtain ⟨z, h1, h2, h3, h4⟩ := add_core hy hx ly (by omega)
  exact ⟨z, h1, by rw [h2, Nat.add_comm], h3, by omega⟩
 ·rw [if_neg (by omega), if_pos (by rw [w64 (by omega) (by omega)]; omega)]
  obtain ⟨z, h1, h2, h3, h4⟩ := add_core hx hy lx (by omega)
  exact ⟨z, h1, h2, h3, by omega⟩
theorem Add_spec {a b : Nat} (ha : (be a).length ≤ 1099511627776) (hb : (be b).length ≤ 1099511627776) : m_integer_Add (false, be a) (false, be b) = some (false, be (a + b)) := by
 unfold m_integer_Add
 obtain ⟨x, hx, hvx, hwx, hlx⟩ := digits_spec (neg := false) ha
 obtain ⟨y, hy, hvy, hwy, hly⟩ := digits_spec (neg := false) hb
 obtain ⟨z, hz, hvz, hwz, hlz⟩ := add_spec hwx hwy (by omega) (by omega)
 rw [hx, Option.bind_some, hy, Option.bind_some]
 simp only [beq_self_eq_true, if_true, hz, Option.bind_some]
 rw [number_spec hwz (by omega), Option.bind_some, hvz, hvx, hvy, valB_be, valB_be]
 by_cases h : a + b = 0
 ·rw [if_pos h, h, be0]
 ·rw [if_neg h]
open Classical in
noncomputable def m_ref01_magB (p0 : Int) : Option (List UInt8) := if 0 ≤ p0 ∧ p0 ≤ 9223372036854775807 then some (be p0.toNat) else none
noncomputable def m_ref01_compareMagN (_ _ : List UInt8) : Option Int := none
noncomputable def m_ref01_subMagN (_ _ : List UInt8) : Option (List UInt8) := none
end Go.AW
namespace Go.AW
open Go Go.Proofs
set_option maxHeartbeats 1600000
set_option maxRecDepth 100000
set_option linter.unusedVariables false
def cellM (i : Nat) (W : List UInt8) : List HV := List.replicate i (HV.int .u8 0) ++ W.map fun c => HV.int .u8 (c.toNat : Int)
theorem cellM_len (i : Nat) (W : List UInt8) : (cellM i W).length = i + W.length := by simp [cellM]
theorem cellM_put (i : Nat) (W : List UInt8) (c : UInt8) : splice (cellM (i + 1) W) i [.int .u8 (c.toNat : Int)] = cellM i (c :: W) := by
  have e : cellM (i + 1) W = List.replicate i (HV.int .u8 0) ++ HV.int .u8 0 :: W.map fun c => HV.int .u8 (c.toNat : Int) := by
    unfold cellM
    rw [List.replicate_succ', List.append_assoc]
    rfl
  rw [e, splice_eq (by simp), List.take_left' (by simp), show (List.replicate i (HV.int .u8 0) ++ HV.int .u8 0 :: W.map fun c => HV.int .u8 (c.toNat : Int)) = (List.replicate i (HV.int .u8 0) ++ [HV.int .u8 0]) ++ W.map fun c => HV.int .u8 (c.toNat : Int) by simp, List.drop_left' (by simp)]
  simp [cellM]
theorem cellM_drop (i : Nat) (W : List UInt8) : (cellM i W).drop i = W.map fun c => HV.int .u8 (c.toNat : Int) := by
  unfold cellM
  rw [List.drop_left' (by simp)]
theorem cellM_frz (D : Heap) (i : Nat) (W : List UInt8) : (cellM i W).map (frz 1 D) = cellM i W := by
  unfold cellM
  rw [List.map_append, List.map_replicate, List.map_map]
  rfl
theorem mag_wrap (n : Nat) : IntKind.wrap .u8 (n : Int) = ((UInt8.ofNat n).toNat : Int) := by
  rw [wu8]
  simp
theorem w_ref01_magB {p0 : Int} {r : (List UInt8)} (h : m_ref01_magB p0 = some r) : Pure Tryz.prog 30 [hI p0] (· = HV.str r) := by
  unfold m_ref01_magB at h
  split at h
  case isFalse => cases h
  rename_i hr
  have h := Option.some.inj h
  obtain ⟨n0, rfl⟩ := Int.eq_ofNat_of_zero_le hr.1
  rw [Int.toNat_natCast] at h
  refine Pure.of_body Tryz.func30 rfl rfl (lb rfl) fun hf => ?_
  clear hf
  unfold Tryz.f30
  dsimp only [enumS, Nat.reduceAdd]
  refine AW.rgs rfl fun K hK => mv rfl rfl ?_
  let P1 : ASf := fun t H => ⟨(0, hI (n0 : Int)) :: t, H⟩
  refine bf hK (P1 [] []) ?_
  refine AW.seq ?_
  refine AW.rgs rfl fun K hK => mv rfl rfl (bv rfl (v_bin rfl rfl b_lss) ?_)
  refine bf hK (P1 [(6, .bool (decide ((n0 : Int) < 256)))] []) ?_
  refine AW.cond rfl (fun hc => ?_) (fun hc => ?_)
  · have hc := of_decide_eq_true hc
    refine AW.seq ?_
    refine AW.rgs rfl fun K hK => mv rfl rfl (bv rfl (v_bin rfl rfl b_eql) ?_)
    refine bf hK (P1 [(8, .bool (decide ((n0 : Int) = 0)))] []) ?_
    refine AW.cond rfl (fun hc => ?_) (fun hc => ?_)
    · have hc := of_decide_eq_true hc
      refine AW.rgs rfl fun K hK => mv rfl rfl ?_
      refine bf hK ⟨[(2, .str nS)], []⟩ ?_
      refine AW.ret ?_
      rw [show n0 = 0 by omega, be0] at h
      subst h
      exact ret_pure (hs := [.str nS]) (.inr rfl) (resT rfl rfl) rfl trivial
    · have hc0 := of_decide_eq_false hc
      refine AW.skip ?_
      refine AW.rgs rfl fun K hK => mv rfl rfl (bv rfl (v_convI ty3 ty5 rfl) ?_)
      refine b_op rfl (o_bsl rfl rfl (as_of (cs := [.int .u8 (IntKind.wrap .u8 (n0 : Int))]) ty84 ty5 rfl rfl rfl rfl rfl) ?_)
      refine bv rfl (v_convB (l := [IntKind.wrap .u8 (n0 : Int)]) ty84 ty5 ty9 rfl) (mv rfl rfl ?_)
      refine bf hK ⟨[(2, .str ([IntKind.wrap .u8 (n0 : Int)].map fun (n : Int) => UInt8.ofNat n.toNat))], []⟩ ?_
      refine AW.ret ?_
      have e : ([IntKind.wrap .u8 (n0 : Int)].map fun (n : Int) => UInt8.ofNat n.toNat) = r := by
        rw [← h, be, if_neg (by omega), show n0 / 256 = 0 by omega, be0, mag_wrap]
        exact bI_back [UInt8.ofNat n0]
      rw [e]
      exact ret_pure (hs := [.str r]) (.inr rfl) (resT rfl rfl) rfl trivial
  have hc := of_decide_eq_false hc
  have hlen : (be n0).length ≤ 8 := be_len 8 (by have := hr.2; omega)
  refine AW.skip ?_
  refine AW.rgs rfl fun K hK => b_op rfl (o_alloc (fid := 30) 30003 rfl rfl ty85 rfl fun v => ?_)
  refine b_nil (hK _ (AW.to (to_le (s' := (P1 [(3, .ptr 30003 v 0)] [(30003, v, .arr 8 85 (cellM 8 []))])) ⟨leS_get ⟨rfl, rfl, trivial⟩, fun _ _ h => h⟩ ?_)))
  refine AW.rgs rfl fun K hK => mv rfl rfl ?_
  refine b_nil (hK _ (AW.to (to_le (s' := (P1 [(3, .ptr 30003 v 0), (4, hI 8)] [(30003, v, .arr 8 85 (cellM 8 []))])) ⟨leS_get ⟨rfl, rfl, rfl, trivial⟩, fun _ _ h => h⟩ ?_)))
  refine AW.seq (AW.block ?_)
  refine AW.loopS (fun p : Nat × Nat × List UInt8 => ⟨[(0, hI (p.1 : Int)), (3, .ptr 30003 v 0), (4, hI (p.2.1 : Int))], [(30003, v, .arr 8 85 (cellM p.2.1 p.2.2))]⟩)
    (fun p => be n0 = be p.1 ++ p.2.2 ∧ p.2.1 + p.2.2.length = 8 ∧ p.1 ≤ n0) (fun p => p.2.1) (n0, 8, []) (AS.le_refl _) ⟨by simp, rfl, Nat.le_refl _⟩ ?_
  rintro ⟨n, i, W⟩ ⟨hb, hi, hn⟩
  dsimp only at hb hi hn ⊢
  have hbl : (be n).length + W.length ≤ 8 := by rw [hb, List.length_append] at hlen; exact hlen
  refine AW.seq ?_
  refine AW.rgs rfl fun K hK => mv rfl rfl (bv rfl (v_bin rfl rfl b_gtr) ?_)
  let P2 : ASf := fun t H => ⟨(0, hI (n : Int)) :: (3, .ptr 30003 v 0) :: t, H⟩
  refine b_nil (hK _ (AW.to (to_le (s' := (P2 [(4, hI (i : Int)), (14, .bool (decide (0 < (n : Int))))] [(30003, v, .arr 8 85 (cellM i W))])) ⟨leS_get ⟨rfl, rfl, rfl, rfl, trivial⟩, fun _ _ h => h⟩ ?_)))
  refine AW.cond rfl (fun hc => ?_) (fun hc => ?_)
  · have hc := of_decide_eq_true hc
    have hp := be_pos (n := n) (by omega)
    obtain ⟨j, rfl⟩ : ∃ j, i = j + 1 := ⟨i - 1, by omega⟩
    have hwj : IntKind.wrap .i64 (((j + 1 : Nat) : Int) - 1) = (j : Int) := by rw [w64 (by omega) (by omega)]; omega
    refine AW.skip ?_
    refine AW.block ?_
    refine AW.rgs rfl fun K hK => mv rfl rfl (bv rfl (v_bin rfl rfl b_sub) ?_)
    rw [hwj]
    refine mv rfl rfl ?_
    refine b_nil (hK _ (AW.to (to_le (s' := (P2 [(4, hI (j : Int))] [(30003, v, .arr 8 85 (cellM (j + 1) W))])) ⟨leS_get ⟨rfl, rfl, rfl, trivial⟩, fun _ _ h => h⟩ ?_)))
    refine AW.rgs rfl fun K hK => mv rfl rfl (mv rfl rfl (bv rfl (v_convI ty3 ty5 rfl) ?_))
    rw [mag_wrap]
    refine bv rfl (v_arrP ty85 es85 rfl rfl (show 0 ≤ (j : Int) ∧ (j : Int) < ((8 : Nat) : Int) by omega) rfl) ?_
    refine b_op rfl (o_store (cs := [.int .u8 ((UInt8.ofNat n).toNat : Int)]) (zs := cellM j (UInt8.ofNat n :: W)) rfl rfl rfl ty5 rfl rfl rfl ?_ ?_ ?_)
    · refine Nat.ble_eq_true_of_le ?_
      rw [cellM_len, Int.toNat_natCast]
      show 0 + j * 1 + 1 ≤ _
      omega
    · rw [Int.toNat_natCast, Nat.mul_one, Nat.zero_add]
      exact cellM_put j W _
    refine b_nil (hK _ (AW.to (to_le (s' := (P2 [(4, hI (j : Int))] [(30003, v, .arr 8 85 (cellM j (UInt8.ofNat n :: W)))])) ⟨leS_get ⟨rfl, rfl, rfl, trivial⟩, le_shadow⟩ ?_)))
    have hsh : Int.fdiv (n : Int) (2 ^ min (8 : Int).toNat (IntKind.bits .i64)) = ((n / 256 : Nat) : Int) := by
      rw [show ((2 : Int) ^ min (8 : Int).toNat (IntKind.bits .i64)) = 256 by decide]
      rw [Int.fdiv_eq_ediv_of_nonneg _ (by decide)]
      omega
    refine AW.rg rfl fun K hK => mv rfl rfl (bv rfl (v_bin rfl rfl (b_shr (by decide))) (mv rfl rfl ?_))
    refine b_nil (hK _ ?_)
    refine ⟨(n / 256, j, UInt8.ofNat n :: W), ⟨?_, by simp only [List.length_cons]; omega, by dsimp only; omega⟩, by dsimp only; omega, ⟨leS_get ⟨by rw [← hsh]; rfl, rfl, rfl, trivial⟩, fun _ _ h => h⟩⟩
    dsimp only
    rw [hb, be, if_neg (by omega), List.append_assoc]
    rfl
  · have hc := of_decide_eq_false hc
    have hn0 : n = 0 := by omega
    rw [hn0, be0, List.nil_append] at hb
    have hWl : W.length ≤ 8 := by omega
    have hW0 : 0 < W.length := by rw [← hb]; exact be_pos (by omega)
    refine AW.exit ?_
    refine AW.to (to_frz 2 [(30003, v, .arr 8 85 (cellM i W))] ⟨[(3, .fptr (cellM i W) 0), (4, hI (i : Int))], []⟩ ⟨⟨_, rfl, ?_⟩, ⟨_, rfl, rfl⟩, trivial⟩ trivial ⟨rfl, trivial⟩ ⟨rfl, trivial⟩ ?_)
    · show (if v = v then HV.fptr ((cellM i W).map (frz 1 [(30003, v, AObj.arr 8 85 (cellM i W))])) 0 else HV.ptr 30003 v 0) = _
      rw [if_pos rfl, cellM_frz]
    have hU : ((cellM i W).drop (((i : Int)).toNat * 1)) = (bI W).map (HV.int .u8) := by
      rw [Int.toNat_natCast, Nat.mul_one, cellM_drop]
      unfold bI
      rw [List.map_map]
      rfl
    have hsl : HV.sl 1 (8 - ((i : Int)).toNat) ((cellM i W).drop (((i : Int)).toNat * 1)) = slE eU8 (bI W) := by
      rw [hU]
      show _ = HV.sl 1 (bI W).length ((bI W).map (HV.int .u8))
      rw [bI_len, Int.toNat_natCast]
      congr 1
      omega
    refine AW.rgs rfl fun K hK => mv rfl rfl ?_
    refine b_sliceArr rfl ty85 es85 rfl rfl (show 0 ≤ (i : Int) ∧ (i : Int) < ((8 : Nat) : Int) by omega) (by rw [cellM_len]; omega) (by decide) ?_
    rw [hsl]
    refine bv rfl (v_convB (l := bI W) ty84 ty5 ty9 rfl) ?_
    rw [bI_back]
    refine mv rfl rfl ?_
    refine b_nil (hK _ (AW.to (to_le (s' := ⟨[(2, .str W)], []⟩) ⟨leS_get ⟨rfl, trivial⟩, fun _ _ h => h⟩ ?_)))
    refine AW.ret ?_
    rw [← hb, h]
    exact ret_pure (hs := [.str r]) (.inr rfl) (resT rfl rfl) rfl trivial
theorem w_ref01_compareMagN {p0 p1 : List UInt8} {r : Int} (h : m_ref01_compareMagN p0 p1 = some r) : Pure Tryz.prog 44 [.str p0, .str p1] (· = hI r) := by cases h
theorem w_ref01_subMagN {p0 p1 : List UInt8} {r : List UInt8} (h : m_ref01_subMagN p0 p1 = some r) : Pure Tryz.prog 45 [.str p0, .str p1] (· = HV.str r) := by cases h
end Go.AW

namespace Go.AW
open Go
def m_slices_Clone_Lint_int (l : List Int) : Option (List Int) := if l.length ≤ 1099511627776 then some l else none
theorem hget_0 {id v : Nat} {o : AObj} {H : Heap} : hget ((id, v, o) :: H) id = some (v, o) := by simp [hget]
end Go.AW
namespace Go.Proofs
open Go
def Tryz.cloneI_ren : Go.Shelf.Ren := ⟨fun | 41 => 19 | n => n, fun | 22 => 27 | 23 => 3 | 4 => 4 | n => n, fun | n => n⟩
theorem Tryz.cloneI : Go.Proofs.SlLaysE0.n41 Tryz.prog Tryz.cloneI_ren where
 mixed := by kernel_rfl
 f41 := ⟨"slices.Clone[[]int,int]", by decide, Tryz.func19.trans (congrArg some (by kernel_rfl))⟩
 t4 := Tryz.underlying4
 a4 := Tryz.isAgg4
 z4 := Tryz.sizeOf4
 v4 := Tryz.zeroValue4
 t22 := Tryz.underlying27
 a22 := Tryz.isAgg27
 z22 := Tryz.sizeOf27
 v22 := Tryz.zeroValue27
end Go.Proofs
namespace Go.AW
open Go Go.Proofs Go.Sort Go.Lib
theorem clone_step {l : List Int} (h : l.length ≤ 1099511627776) {H : Heap} {K : HV → Heap → Prop} (id : Nat) (hnil : l = [] → K (.v (.slice none 0 0)) H) (hK : ∀ ver, K (.ar id ver 1 0 l.length) (hset H id ver (.arr 1 3 (l.map (HV.int .i64))))) : ACall Tryz.prog 19 [.sl 1 l.length (l.map (HV.int .i64))] H K := by
 refine ⟨enters' Tryz.func19 rfl rfl, fun μ w vs hs hr _ => ?_⟩
 obtain ⟨x, xs, rfl, hr, hn⟩ := hr
 cases hn
 obtain ⟨_, _, hm, ⟨h0, rfl⟩ | ⟨b, off, cap, vs, rfl, hcap, hno, hsg, hrl⟩⟩ := hr
 ·refine (AnyE.slices_Clone_nil Tryz.cloneI _ _ w).mono ?_
  rintro e w' ⟨rfl, rfl⟩
  exact ⟨_, _, _, μ, rfl, hnil (List.eq_nil_of_length_eq_zero h0), hs, rfl, Evo.refl _ _⟩
 ·obtain ⟨hvs, hreps⟩ := repL_ints hrl
  subst hvs
  obtain ⟨_, i0, hi0, hz1, hz2, hz0⟩ := ty_spec ty3
  refine (AnyE.slices_Clone Tryz.cloneI i0 _ 1 8 hi0 hz0 hz1 hz2 rfl (by decide) (fun w => Tryz.sizeOf3 w) b off l.length cap (l.map (Value.int .i64)) w (by simp) hm (by omega) (fun j u hj => hsg.cell hj) (fun u hu => by
   obtain ⟨x, _, rfl⟩ := List.mem_map.1 hu; rfl)).mono ?_
  rintro e w' ⟨v', rfl, ⟨_, ⟨rfl, _⟩ | ⟨g, cap', cur, rfl, hg1, hg2, hc1, hc2, hc3, hc4⟩⟩, hnn, hbel⟩
  ·exact absurd rfl hnn
  ·have hsame : Same w w' := ⟨hbel.os, hbel.tape, hbel.output⟩
   have hold : ∀ k, k < w.heap.size → w'.heap[k]? = w.heap[k]? := hbel.block
   have hE := Evo.repl (w' := w') hs id (some g) hsame hbel.size (fun b hb _ => hold b hb) (fun b hb => by cases hb; exact .inl hg1)
   have hrowg : Row w' g cur 3 := ⟨0, 0, hg2, .inl (Nat.le_refl _)⟩
   have hsr := hs.repl (w' := w') id (some g) (.arr 1 3 (l.map (HV.int .i64))) hsame hbel.size (fun b hb _ => hold b hb) (fun b hb => by cases hb; exact .inl hg1)
    ⟨fun c hc => by obtain ⟨x, _, rfl⟩ := List.mem_map.1 hc; rfl, cur, l.map (Value.int .i64), cur.toList.drop (l.length * 1), hrowg, by rw [← hc4, List.take_append_drop], repL_map.2 fun x hx => Rep.evo hE hs.ok _ _ (hreps x hx)⟩
   refine ⟨_, .ar id μ.nx 1 0 l.length, _, μ.set id (some g), rfl, hK μ.nx, hsr, .inl ⟨some g, by simp [Mu.set], .inr ⟨g, cap', cur, 3, rfl, rfl, hc1, hc2, hrowg, by omega⟩⟩, hE⟩
theorem c_cloneO {l r : List Int} {H : Heap} {K : HV → Heap → Prop} (id : Nat) (h : m_slices_Clone_Lint_int l = some r) (hK : ∀ ver, K (.ar id ver 1 0 r.length) (hset H id ver (.arr 1 3 (r.map (HV.int .i64))))) : ACall Tryz.prog 19 [slE eInt l] H K := by
 unfold m_slices_Clone_Lint_int at h
 split at h
 ·rename_i hl
  cases h
  refine ⟨enters' Tryz.func19 rfl rfl, fun μ w vs hs hr _ => ?_⟩
  obtain ⟨x, xs, rfl, hr, hn⟩ := hr
  cases hn
  have hr2 := hr
  obtain ⟨_, _, hm, ⟨h0, rfl⟩ | ⟨b, off, cap, vs, rfl, hcap, hno, hsg, hrl⟩⟩ := hr2
  ·refine (AnyE.slices_Clone_nil Tryz.cloneI _ _ w).mono ?_
   rintro e w' ⟨rfl, rfl⟩
   have hl0 : l = [] := List.eq_nil_of_length_eq_zero h0
   subst hl0
   exact ⟨_, .ar id μ.nx 1 0 0, _, μ.set id none, rfl, hK μ.nx, hs.repl id none (.arr 1 3 []) (Same.refl _) (Nat.le_refl _) (fun _ _ _ => rfl) (fun b hb => by cases hb) rfl, .inl ⟨none, by simp [Mu.set], .inl ⟨rfl, rfl, rfl, rfl⟩⟩, Evo.repl hs id none (Same.refl _) (Nat.le_refl _) (fun _ _ _ => rfl) (fun b hb => by cases hb)⟩
  ·obtain ⟨hvs, hreps⟩ := repL_ints hrl
   subst hvs
   obtain ⟨_, i0, hi0, hz1, hz2, hz0⟩ := ty_spec ty3
   refine (AnyE.slices_Clone Tryz.cloneI i0 _ 1 8 hi0 hz0 hz1 hz2 rfl (by decide) (fun w => Tryz.sizeOf3 w) b off l.length cap (l.map (Value.int .i64)) w (by simp) hm (by omega) (fun j u hj => hsg.cell hj) (fun u hu => by
    obtain ⟨x, _, rfl⟩ := List.mem_map.1 hu; rfl)).mono ?_
   rintro e w' ⟨v', rfl, ⟨_, ⟨rfl, _⟩ | ⟨g, cap', cur, rfl, hg1, hg2, hc1, hc2, hc3, hc4⟩⟩, hnn, hbel⟩
   ·exact absurd rfl hnn
   ·have hsame : Same w w' := ⟨hbel.os, hbel.tape, hbel.output⟩
    have hold : ∀ k, k < w.heap.size → w'.heap[k]? = w.heap[k]? := hbel.block
    have hE := Evo.repl (w' := w') hs id (some g) hsame hbel.size (fun b hb _ => hold b hb) (fun b hb => by cases hb; exact .inl hg1)
    have hrowg : Row w' g cur 3 := ⟨0, 0, hg2, .inl (Nat.le_refl _)⟩
    have hsr := hs.repl (w' := w') id (some g) (.arr 1 3 (l.map (HV.int .i64))) hsame hbel.size (fun b hb _ => hold b hb) (fun b hb => by cases hb; exact .inl hg1)
     ⟨fun c hc => by obtain ⟨x, _, rfl⟩ := List.mem_map.1 hc; rfl, cur, l.map (Value.int .i64), cur.toList.drop (l.length * 1), hrowg, by rw [← hc4, List.take_append_drop], repL_map.2 fun x hx => Rep.evo hE hs.ok _ _ (hreps x hx)⟩
    refine ⟨_, .ar id μ.nx 1 0 l.length, _, μ.set id (some g), rfl, hK μ.nx, hsr, .inl ⟨some g, by simp [Mu.set], .inr ⟨g, cap', cur, 3, rfl, rfl, hc1, hc2, hrowg, by omega⟩⟩, hE⟩
 ·cases h
theorem w_slices_Clone_Lint_int {l r : List Int} (h : m_slices_Clone_Lint_int l = some r) : Pure Tryz.prog 19 [slE eInt l] (· = slE eInt r) := by
 unfold m_slices_Clone_Lint_int at h
 split at h
 ·rename_i hl
  cases h
  refine ACall.conv' (K := fun r H' => (l = [] ∧ r = .v (.slice none 0 0) ∧ H' = []) ∨ ∃ ver, r = .ar 0 ver 1 0 l.length ∧ H' = hset [] 0 ver (.arr 1 3 (l.map (HV.int .i64)))) (clone_step hl 0 (fun e => .inl ⟨e, rfl, rfl⟩) fun ver => .inr ⟨ver, rfl, rfl⟩) ?_
  rintro r H' (⟨rfl, rfl, rfl⟩ | ⟨ver, rfl, rfl⟩)
  ·have hcl : clean (slE eInt []) := clean_slE (c := eInt) fun _ _ => ⟨trivial, trivial⟩
   exact ⟨_, _, Conv.le (Le.nil 1), rfl, hcl, rfl⟩
  ·refine ⟨_, [], Conv.all 2, ?_⟩
   have hf := frz_slE eInt (D := [(0, ver, .arr 1 3 (l.map (HV.int .i64)))]) (l := l) hget_0 (fun _ _ => rfl)
   have hcl : clean (slE eInt l) := clean_slE (c := eInt) fun _ _ => ⟨trivial, trivial⟩
   have h2 := hcl
   rw [← hf] at h2
   exact ⟨hf, h2, rfl⟩
 ·cases h
end Go.AW
namespace Go.Proofs
open Go
def Tryz.itoa_ren : Go.Shelf.Ren := ⟨fun | 171 => 59 | 243 => 66 | 246 => 75 | 283 => 80 | 284 => 81 | 285 => 82 | 286 => 83 | 129 => 94 | 317 => 95 | 318 => 96 | 319 => 97 | 320 => 98 | 337 => 104 | 338 => 105 | n => n, fun | 3 => 3 | 9 => 9 | 2 => 2 | 4 => 4 | 171 => 123 | 0 => 0 | 53 => 64 | 37 => 84 | 5 => 5 | 173 => 126 | 212 => 139 | 51 => 66 | 20 => 20 | 213 => 140 | 46 => 67 | 232 => 150 | 233 => 151 | n => n, fun | 17 => 0 | 18 => 1 | 19 => 2 | n => n⟩
theorem Tryz.itoa : Go.Proofs.Lays.n171 Tryz.prog Tryz.itoa_ren where
 mixed := by kernel_rfl
 f129 := Tryz.func94.trans (congrArg some (by kernel_rfl))
 f171 := Tryz.func59.trans (congrArg some (by kernel_rfl))
 f243 := Tryz.func66.trans (congrArg some (by kernel_rfl))
 f246 := Tryz.func75.trans (congrArg some (by kernel_rfl))
 f283 := Tryz.func80.trans (congrArg some (by kernel_rfl))
 f284 := Tryz.func81.trans (congrArg some (by kernel_rfl))
 f285 := Tryz.func82.trans (congrArg some (by kernel_rfl))
 f286 := Tryz.func83.trans (congrArg some (by kernel_rfl))
 f317 := Tryz.func95.trans (congrArg some (by kernel_rfl))
 f318 := Tryz.func96.trans (congrArg some (by kernel_rfl))
 f319 := Tryz.func97.trans (congrArg some (by kernel_rfl))
 f320 := Tryz.func98.trans (congrArg some (by kernel_rfl))
 f337 := Tryz.func104.trans (congrArg some (by kernel_rfl))
 f338 := Tryz.func105.trans (congrArg some (by kernel_rfl))
 t0 := Tryz.underlying0
 a0 := Tryz.isAgg0
 z0 := Tryz.sizeOf0
 v0 := Tryz.zeroValue0
 t2 := Tryz.underlying2
 a2 := Tryz.isAgg2
 z2 := Tryz.sizeOf2
 v2 := Tryz.zeroValue2
 t3 := Tryz.underlying3
 a3 := Tryz.isAgg3
 z3 := Tryz.sizeOf3
 v3 := Tryz.zeroValue3
 t4 := Tryz.underlying4
 a4 := Tryz.isAgg4
 z4 := Tryz.sizeOf4
 v4 := Tryz.zeroValue4
 t5 := Tryz.underlying5
 a5 := Tryz.isAgg5
 z5 := Tryz.sizeOf5
 v5 := Tryz.zeroValue5
 t9 := Tryz.underlying9
 a9 := Tryz.isAgg9
 z9 := Tryz.sizeOf9
 v9 := Tryz.zeroValue9
 t20 := Tryz.underlying20
 a20 := Tryz.isAgg20
 z20 := Tryz.sizeOf20
 v20 := Tryz.zeroValue20
 t37 := Tryz.underlying84
 a37 := Tryz.isAgg84
 z37 := Tryz.sizeOf84
 v37 := Tryz.zeroValue84
 t46 := Tryz.underlying67
 a46 := Tryz.isAgg67
 z46 := Tryz.sizeOf67
 v46 := Tryz.zeroValue67
 t51 := Tryz.underlying66
 a51 := Tryz.isAgg66
 z51 := Tryz.sizeOf66
 v51 := Tryz.zeroValue66
 t53 := Tryz.underlying64
 a53 := Tryz.isAgg64
 z53 := Tryz.sizeOf64
 v53 := Tryz.zeroValue64
 t171 := Tryz.underlying123
 a171 := Tryz.isAgg123
 z171 := Tryz.sizeOf123
 v171 := Tryz.zeroValue123
 t173 := Tryz.underlying126
 a173 := Tryz.isAgg126
 z173 := Tryz.sizeOf126
 v173 := Tryz.zeroValue126
 t212 := Tryz.underlying139
 a212 := Tryz.isAgg139
 z212 := Tryz.sizeOf139
 v212 := Tryz.zeroValue139
 t213 := Tryz.underlying140
 a213 := Tryz.isAgg140
 z213 := Tryz.sizeOf140
 t232 := Tryz.underlying150
 a232 := Tryz.isAgg150
 z232 := Tryz.sizeOf150
 v232 := Tryz.zeroValue150
 t233 := Tryz.underlying151
 a233 := Tryz.isAgg151
 z233 := Tryz.sizeOf151
 v233 := Tryz.zeroValue151
 g17 := by kernel_rfl
 g18 := by kernel_rfl
 g19 := by kernel_rfl
end Go.Proofs
namespace Go.AW
open Go
def dec2 (n : Nat) : List UInt8 := if n < 10 then [UInt8.ofNat (48 + n)] else [UInt8.ofNat (48 + n / 10), UInt8.ofNat (48 + n % 10)]
def m_strconv_Itoa (p0 : Int) : Option (List UInt8) := if 0 ≤ p0 ∧ p0 < 100 then some (dec2 p0.toNat) else none
end Go.AW
namespace Go.AW
open Go Go.Proofs
theorem dec2_eq {n : Nat} (h : n < 100) : Lib.decDigits n = dec2 n := by
 unfold dec2
 rw [Lib.decDigits]
 by_cases h1 : n < 10
 ·rw [dif_pos h1, if_pos h1]
 ·rw [dif_neg h1, if_neg h1, Lib.decDigits, dif_pos (by omega)]
  rfl
theorem w_strconv_Itoa {p0 : Int} {r : List UInt8} (h : m_strconv_Itoa p0 = some r) : Pure Tryz.prog 59 [HV.int .i64 p0] (· = HV.str r) := by
 unfold m_strconv_Itoa at h
 split at h
 ·rename_i hc
  cases h
  obtain ⟨m, rfl⟩ := Int.eq_ofNat_of_zero_le hc.1
  refine ⟨enters' Tryz.func59 rfl rfl, fun μ w vs hs hr _ => ?_⟩
  obtain ⟨x, xs, rfl, ⟨rfl, _⟩, hn⟩ := hr
  cases hn
  refine (Any.strconv_Itoa_small Tryz.itoa m (by omega) w).mono ?_
  rintro e w' ⟨rfl, rfl⟩
  refine ⟨_, HV.str (dec2 m), [], μ, rfl, ⟨rfl, trivial, rfl⟩, hs, ⟨?_, ?_⟩, Evo.refl _ _⟩
  ·rw [dec2_eq (by omega)]
  ·unfold dec2; split <;> simp [maxLen]
 ·cases h
set_option linter.unusedVariables false
theorem le_slH {l l' : List (Nat × HV)} {H : Heap} (h : leS l l') : (⟨l, H⟩ : AS).le ⟨l', H⟩ := ⟨leS_get h, fun _ _ h => h⟩
set_option maxRecDepth 100000 in
theorem iy_graph_leaving {g : TLabelsStatesEdges} {s : Int} {L : List (Int × TFromLabelTo)} (h : y_graph_leaving g s = some L) : Yields Tryz.prog 76 [] [gF g, .fptr [hI s] 0] (L.map fun x => [hI x.1, .agg [hI x.2.1, hI x.2.2.1, hI x.2.2.2]]) := by
  unfold y_graph_leaving at h
  split at h
  · rename_i hm
    cases h
    obtain ⟨gl, gs, es⟩ := g
    dsimp only at hm ⊢
    intro id ver H J Stop K hmn h0 hstep hdone hstop
    refine ACall.of_body Tryz.func76 rfl rfl (lb rfl) ?_
    unfold Tryz.f76
    dsimp only [enumS, Nat.reduceAdd]
    refine AW.rgs rfl fun K1 hK => ?_
    refine bv rfl (v_fieldAddrF fo24_2 rfl) (bv rfl (v_loadF ty22 rfl (l_lit rfl rfl)) (bv rfl (v_lenF rfl rfl ty22 rfl) (mv rfl rfl ?_)))
    refine b_nil (hK _ (AW.to (to_le (s' := ⟨[(0, .yl id ver), (2, .fptr [hI s] 0), (7, slE eFromLabelTo es), (8, .int .i64 (es.length : Int)), (9, .int .i64 ((0 : Nat) : Int))], H⟩) (le_slH ⟨rfl, rfl, rfl, rfl, rfl, trivial⟩) ?_)))
    clear hK K1
    refine AW.block ?_
    refine AW.loopS (fun p : Nat × Heap => ⟨[(0, .yl id ver), (2, .fptr [hI s] 0), (7, slE eFromLabelTo es), (8, .int .i64 (es.length : Int)), (9, .int .i64 (p.1 : Int))], p.2⟩)
      (fun p => p.1 ≤ es.length ∧ J (leaveL (es.take p.1) s).length p.2) (fun p => es.length - p.1) (0, H) (AS.le_refl _) ⟨Nat.zero_le _, h0⟩ ?_
    rintro ⟨i, H1⟩ ⟨hi, hj⟩
    dsimp only at hi hj ⊢
    refine AW.rgs rfl fun K1 hK => ?_
    refine bv rfl (v_bin rfl rfl b_lss) ?_
    refine b_nil (hK _ ?_)
    clear hK K1
    refine AW.cseq rfl (fun hc => ?_) (fun hc => ?_)
    · have hi' : i < es.length := by have := of_decide_eq_true hc; omega
      have hx : idx es (i : Int) = some es[i] := ix hi'
      obtain ⟨f, hf⟩ := fresh_id H1 5
      refine AW.skip ?_
      refine AW.seq (AW.block ?_)
      refine AW.rgs rfl fun K1 hK => ?_
      refine mv rfl rfl (bv rfl (v_idxF ty22 es22 rfl rfl (idx_lt hx)) (bv rfl (v_loadF ty49 rfl (l_agg eFromLabelTo hx rfl rfl)) ?_))
      refine b_op rfl (o_alloc (fid := f) (zs := [hI 0, hI 0, hI 0]) (f * 1000 + 5) rfl rfl ty49 rfl (fun ov => ?_))
      refine mv rfl rfl ?_
      refine b_op rfl (o_store (cs := cFromLabelTo es[i]) (zs := cFromLabelTo es[i]) rfl rfl rfl ty49 rfl hget_0 rfl rfl rfl ?_)
      refine b_nil (hK _ (AW.to (to_le (s' := ⟨[(0, .yl id ver), (2, .fptr [hI s] 0), (4, .int .i64 (i : Int)), (5, .ptr (f * 1000 + 5) ov 0), (7, slE eFromLabelTo es), (8, .int .i64 (es.length : Int)), (9, .int .i64 (i : Int))], (f * 1000 + 5, ov, .arr 3 49 (cFromLabelTo es[i])) :: H1⟩) ⟨leS_get ⟨rfl, rfl, rfl, rfl, rfl, rfl, rfl, trivial⟩, fun j x hx => ?_⟩ ?_)))
      · simp only [hget] at hx ⊢
        split <;> rename_i hij
        · rw [if_pos hij] at hx; exact hx
        · first | exact hx | (rw [if_neg hij] at hx; first | exact hx | (rw [if_neg hij]; exact hx)) | (rw [if_neg hij]; exact hx)
      clear hK K1
      have hJ1 := hmn _ _ _ hj (cons_le (ver := ov) (ob := .arr 3 49 (cFromLabelTo es[i])) hf)
      refine AW.rgs rfl fun K1 hK => ?_
      refine bv rfl (v_fieldAddrP fo49_0 rfl hget_0) (bv rfl (v_loadP ty3 rfl hget_0 (l_lit rfl rfl)) (bv rfl (v_loadF ty3 rfl (l_lit rfl rfl)) (bv rfl (v_bin rfl rfl b_eql) (mv rfl rfl ?_))))
      have htk := leaveL_take es s hi'
      by_cases hs : es[i].1 = s
      · rw [if_pos hs] at htk
        obtain ⟨rest, hr⟩ := leaveL_split es s (i + 1)
        rw [htk] at hr
        refine b_T rfl rfl rfl rfl (decide_eq_true hs) (o_val rfl (mv_val rfl rfl).2 ?_)
        refine b_T rfl rfl rfl rfl rfl (o_val rfl (mv_val rfl rfl).2 ?_)
        refine b_T rfl rfl rfl rfl rfl (o_val rfl (v_loadP ty49 rfl hget_0 (l_litA (ds := cFromLabelTo es[i]) rfl (lb rfl) rfl)) ?_)
        refine b_T rfl rfl rfl rfl rfl (o_yield (hs := [hI (i : Int), .agg (cFromLabelTo es[i])]) rfl rfl rfl ?_)
        refine (hstep (leaveL (es.take i) s).length [hI (i : Int), .agg (cFromLabelTo es[i])] _ ?_ hJ1).mono ?_
        · rw [List.getElem?_map, hr, List.append_assoc, List.getElem?_append_right (Nat.le_refl _), Nat.sub_self]
          rfl
        rintro r H2 ⟨b, rfl, h3, h4⟩
        refine b_T rfl rfl rfl rfl rfl (o_val rfl (v_not rfl) ?_)
        refine bv rfl (v_pickT rfl rfl rfl) ?_
        refine b_nil (hK _ (AW.to (to_le (s' := ⟨[(0, .yl id ver), (2, .fptr [hI s] 0), (7, slE eFromLabelTo es), (8, .int .i64 (es.length : Int)), (9, .int .i64 (i : Int)), (24, .bool (!b))], H2⟩) (le_slH ⟨rfl, rfl, rfl, rfl, rfl, rfl, trivial⟩) ?_)))
        clear hK K1
        refine AW.cond rfl (fun hc => ?_) (fun hc => ?_)
        · have hb : b = false := by simpa using hc
          refine AW.ret ⟨.inr rfl, ?_⟩
          simp only [go_sem, reduceIte, Nat.reduceEqDiff]
          exact ⟨_, _, Conv.refl _ _, hstop _ (h4 hb)⟩
        · have hb : b = true := by simpa using hc
          refine AW.skip ?_
          refine AW.region (fid := f) (mt := []) [0, 2, 7, 8, 9] rfl fun K hK => ?_
          simp only [go_sem, reduceIte, Nat.reduceEqDiff, Int.reduceLE]
          refine hK _ ?_
          refine ⟨(i + 1, H2), ⟨by dsimp only; omega, ?_⟩, by dsimp only; omega, ?_⟩
          · dsimp only
            rw [htk, List.length_append]
            exact h3 hb
          · dsimp only
            rw [cnt_next hm hi']
            exact AS.le_refl _
      · rw [if_neg hs, List.append_nil] at htk
        refine b_F rfl rfl rfl rfl rfl (decide_eq_false hs) ?_
        refine b_F rfl rfl rfl rfl rfl rfl ?_
        refine b_F rfl rfl rfl rfl rfl rfl ?_
        refine b_F rfl rfl rfl rfl rfl rfl ?_
        refine b_F rfl rfl rfl rfl rfl rfl ?_
        refine bv rfl (v_pickF rfl rfl rfl) ?_
        refine b_nil (hK _ (AW.to (to_le (s' := ⟨[(0, .yl id ver), (2, .fptr [hI s] 0), (7, slE eFromLabelTo es), (8, .int .i64 (es.length : Int)), (9, .int .i64 (i : Int)), (24, .bool false)], _⟩) (le_slH ⟨rfl, rfl, rfl, rfl, rfl, rfl, trivial⟩) ?_)))
        clear hK K1
        refine AW.cond rfl (fun hc => by cases hc) (fun _ => ?_)
        refine AW.skip ?_
        refine AW.region (fid := f) (mt := []) [0, 2, 7, 8, 9] rfl fun K hK => ?_
        simp only [go_sem, reduceIte, Nat.reduceEqDiff, Int.reduceLE]
        refine hK _ ?_
        refine ⟨(i + 1, (f * 1000 + 5, ov, .arr 3 49 (cFromLabelTo es[i])) :: H1), ⟨by dsimp only; omega, ?_⟩, by dsimp only; omega, ?_⟩
        · dsimp only
          rw [htk]
          exact hJ1
        · dsimp only
          rw [cnt_next hm hi']
          exact AS.le_refl _
    · have hi2 : es.length ≤ i := by have := of_decide_eq_false hc; omega
      have hie : i = es.length := by omega
      subst hie
      rw [List.take_length] at hj
      refine AW.exit ?_
      refine ⟨.inl rfl, ?_⟩
      simp only [go_sem, reduceIte, Nat.reduceEqDiff]
      exact ⟨_, _, Conv.refl _ _, hdone _ (by rw [List.length_map]; exact hj)⟩
  · cases h
end Go.AW
namespace Go.Proofs
open Go
theorem Tryz.bld_lies (n : Nat) (hn : 2 ≤ n) : liesAt Tryz.prog Tryz.prog.depth 98 (n / Tryz.prog.cellsOf 98) 0 98 1 = true := by
 have hc : Tryz.prog.cellsOf 98 = 2 := by kernel_rfl
 have hd : Tryz.prog.depth = (2 * (Tryz.prog.types.size + Made.depth) + 1) + 1 := rfl
 rw [hd]
 simp only [liesAt, Bool.or_eq_true]
 left
 rw [hd]
 have : 1 ≤ n / 2 := by omega
 simp [rowAt, hc, sameLayout, this]
set_option maxHeartbeats 1000000 in
set_option maxRecDepth 100000 in
theorem Tryz.copyCheck_fresh (b n : Nat) (w : World) (h0 : w.cell? ⟨b, 0, none⟩ = some (.pointer none)) (hsh : w.shape? b = some (98, n)) (hn : 2 ≤ n) (hfz : w.frozen? ⟨b, 0, none⟩ = false) :
  Calls Tryz.prog 65 #[.pointer (some ⟨b, 0, none⟩)] w fun e w' => e = .returned (.tuple #[]) ∧ w' = w.setCell ⟨b, 0, none⟩ (.pointer (some ⟨b, 0, none⟩)) := by
 obtain ⟨j, hj, hjs⟩ := Option.map_eq_some_iff.1 (show (Tryz.prog.info? 98).map (·.size) = some 2 by kernel_rfl)
 have hlies := Tryz.bld_lies n hn
 go_enter Tryz.func65, Tryz.ntmps65
 go_wp2
 rw [Lib.run_to_unsafe w ⟨b, 0, none⟩ Tryz.underlying96 Tryz.underlying116 hj (by rw [hjs]; decide) hsh (by show 0 < n; omega)]
 simp only [Result.andThen]
 rw [Oper.upon_value]
 go_wp2
 rw [run_callFunc_extern Tryz.func74 (by kernel_rfl) (by kernel_rfl) (by kernel_rfl) (e := Extern.AbiNoEscape.same) (by kernel_rfl), Lib.run_noEscape]
 simp only [Result.andThen]
 rw [Oper.upon_value]
 go_wp2
 rw [Lib.run_from_unsafe w ⟨b, 0, none⟩ Tryz.underlying116 Tryz.underlying96 hj hsh hlies]
 simp only [Result.andThen]
 rw [Oper.upon_value]
 go_wp2
 go_end0
 exact ⟨rfl, rfl⟩
set_option maxHeartbeats 1000000 in
set_option maxRecDepth 100000 in
theorem Tryz.copyCheck_used (b : Nat) (w : World) (h0 : w.cell? ⟨b, 0, none⟩ = some (.pointer (some ⟨b, 0, none⟩))) :
  Calls Tryz.prog 65 #[.pointer (some ⟨b, 0, none⟩)] w fun e w' => e = .returned (.tuple #[]) ∧ w' = w := by
 obtain ⟨j, hj, _⟩ := Option.map_eq_some_iff.1 (show (Tryz.prog.info? 98).map (·.size) = some 2 by kernel_rfl)
 go_enter Tryz.func65, Tryz.ntmps65
 go_wp2
 rw [Lib.run_neq_ptr_same w _ Tryz.underlying96 hj]
 go_wp2
 go_end0
 exact ⟨rfl, rfl⟩
end Go.Proofs
namespace Go.AW
open Go Go.Proofs Go.Lib
def bldP (u : Bool) (id ver : Nat) : HV := if u then .ptr id ver 0 else .v (.pointer none)
theorem c_copyCheck {H : Heap} {K : HV → Heap → Prop} {id ver : Nat} {u : Bool} {s : HV} (hg : hget H id = some (ver, .arr 2 98 [bldP u id ver, s])) (hK : K (.tup []) ((id, ver, .arr 2 98 [.ptr id ver 0, s]) :: H)) :
  ACall Tryz.prog 65 [.ptr id ver 0] H K := by
 refine ⟨enters' Tryz.func65 rfl rfl, fun μ w vs hs hr _ => ?_⟩
 obtain ⟨x, xs, rfl, hr, hn⟩ := hr
 cases hn
 obtain ⟨lo, hl, hor⟩ := hs.has _ _ _ hg
 have hle : ∀ ob j (y : Nat × AObj), hget ((id, ver, ob) :: H) j = some y ↔ hget (hset H id ver ob) j = some y := fun ob j y => by simp only [hget, hget_hset]
 rcases hr with ⟨b, hl', rfl⟩ | ⟨hd, _⟩
 ·rw [hl] at hl'
  cases hl'
  obtain ⟨h1, cur, vs', rest, hrow, hcl, hrl⟩ := hor
  obtain ⟨v0, vs1, rfl, r0, v1, vs2, rfl, r1, hn⟩ := hrl
  cases hn
  have hrow2 := hrow
  obtain ⟨lo', hi', hbk, hfr⟩ := hrow2
  have hsz : 2 ≤ cur.size := by rw [← Array.length_toList, hcl]; simp
  have hc0 : cur[0]? = some v0 := by rw [← Array.getElem?_toList, hcl]; rfl
  have hcell : w.cell? ⟨b, 0, none⟩ = some v0 := by rw [Lib.cell_of_heap hbk]; exact hc0
  cases u with
  | false =>
   obtain rfl : v0 = .pointer none := r0
   refine (Tryz.copyCheck_fresh b cur.size w hcell (by simp [World.shape?, hbk]) hsz (hrow.free (by omega))).mono ?_
   rintro e w' ⟨rfl, rfl⟩
   have hbk' : (w.setCell ⟨b, 0, none⟩ (.pointer (some ⟨b, 0, none⟩))).heap[b]? = some (.cells (cur.setIfInBounds 0 (.pointer (some ⟨b, 0, none⟩))) 98 (lo', hi')) := by
    show (w.heap.modify b _)[b]? = _
    rw [Array.getElem?_modify, if_pos rfl, hbk]
    rfl
   obtain ⟨hsr, hE⟩ := hs.updArr (w' := w.setCell ⟨b, 0, none⟩ (.pointer (some ⟨b, 0, none⟩))) (cs' := [.ptr id ver 0, s]) hg hl ⟨rfl, rfl, rfl⟩ (by show (w.heap.modify b _).size = _; simp) (fun b' hne => by
    show (w.heap.modify b _)[b']? = _
    rw [Array.getElem?_modify, if_neg (fun e => hne e.symm)]) hrow ⟨lo', hi', hbk', by simpa using hfr⟩ (by simp) fun E => by
     refine ⟨fun c hc => ?_, _, [.pointer (some ⟨b, 0, none⟩), v1], rest, ⟨lo', hi', hbk', by simpa using hfr⟩, ?_, ?_⟩
     ·rcases List.mem_cons.1 hc with rfl | hc
      ·rfl
      ·exact h1 c (List.mem_cons_of_mem _ hc)
     ·rw [Array.toList_setIfInBounds, hcl]; rfl
     ·exact ⟨_, _, rfl, .inl ⟨b, hl, rfl⟩, _, _, rfl, Rep.evo E hs.ok _ _ r1, rfl⟩
   exact ⟨_, .tup [], _, μ, rfl, hK, hsr.le (hle _), ⟨[], rfl, rfl⟩, hE⟩
  | true =>
   rcases r0 with ⟨b', hl2, rfl⟩ | ⟨hd, _⟩
   ·rw [hl] at hl2
    cases hl2
    refine (Tryz.copyCheck_used b w hcell).mono ?_
    rintro e w' ⟨rfl, rfl⟩
    exact ⟨_, .tup [], _, μ, rfl, hK, (hs.same hg).le (hle _), ⟨[], rfl, rfl⟩, Evo.refl _ _⟩
   ·exact absurd hl (hd.2 _)
 ·exact absurd hl (hd.2 _)
end Go.AW
namespace Go.AW
open Go
abbrev eByte : EncL UInt8 := encM fun b => HV.int .u8 (b.toNat : Int)
section
variable {P : Program} {ro : Option Nat} {N : Nat} {s : AS} {o : Oper} {sl : List (Nat × HV)} {H : Heap} {all : Array Oper} {rest : List Oper} {K : AS → Prop}
theorem o_appS {d : Nat} {t xt e : TypeId} {a b a2 b2 : Nat} {z z2 : Value} {aa : Array Operand} {ts : Array TypeId} {x y : Operand} {Te : TyI} {l m : List UInt8} {id ver : Nat} (h0 : (o.dst, o.op) = (some d, .call ⟨.builtin .append, aa, ts⟩)) (ha : (aa.toList, ts.toList) = ([x, y], [t, xt])) (hT : ty P t = some ⟨.slice e, a, b, z⟩) (hxt : ty P xt = some ⟨.string, a2, b2, z2⟩) (hTe : ty P e = some Te)
  (hx : s.ev x = some (.ar id ver eByte.k 0 l.length)) (hg : hget s.heap id = some (ver, .arr eByte.k e (eByte.E l))) (hy : s.ev y = some (.str m)) (hk : Te.size = 1) (hz : (zcells Te.zero).any (fun zs => zs.length == Te.size) = true) (h : fits Te.bytes (l.length + m.length))
  (k : ∀ ver', bops P ro N all rest K ⟨(d, .ar id ver' eByte.k 0 (l ++ m).length) :: s.slots, (id, ver', .arr eByte.k e (eByte.E (l ++ m))) :: s.heap⟩) : aop P 0 [] o (fun s' => bops P ro N all rest K s') s := by
 obtain ⟨h3, h4⟩ := Prod.mk.inj h0
 obtain ⟨h5, h6⟩ := Prod.mk.inj ha
 have ek : eByte.k = 1 := rfl
 refine op_append (n := l.length) (m := m.length) (cs := eByte.E l) (ds := eByte.E m) h4 h5 h6 hT hx hy hTe hz ?_ ?_ h ?_
 ·simp only [abase, hg]
  refine ⟨trivial, hk.symm, trivial, trivial, ?_, trivial, ?_⟩
  ·rw [hk, eByte.len]; exact Nat.le_refl _
  ·rw [hk]
   show (eByte.E l).take (l.length * eByte.k) = _
   rw [eByte.take, List.take_length]
 ·simp only [asrc, hxt]
  exact ⟨hk, trivial, rfl⟩
 ·intro ver'
  have e1 : baseId (.ar id ver eByte.k 0 l.length) (cid 0 o.dst) = id := rfl
  have e2 : eByte.E l ++ eByte.E m = eByte.E (l ++ m) := (eByte.append l m).symm
  rw [e1, h3, hk, e2]
  have e3 : (l ++ m).length = l.length + m.length := List.length_append
  have := k ver'
  rw [e3] at this
  exact bops_le (putH_le id ver' _ d _) this
end
end Go.AW
namespace Go.AW
open Go Go.Proofs
def bldO (id ver aid aver : Nat) (u : Bool) (l : List UInt8) : AObj := .arr 2 98 [bldP u id ver, .ar aid aver 1 0 l.length]
def bytO (l : List UInt8) : AObj := .arr 1 5 (eByte.E l)
theorem hget_1 {id v j w : Nat} {o p : AObj} {H : Heap} (h : j ≠ id) (hj : hget H j = some (w, p)) : hget ((id, v, o) :: H) j = some (w, p) := by
 simp only [hget]
 rw [if_neg (by omega)]
 exact hj
end Go.AW
namespace Go.Proofs
open Go
def But (g : Nat) (w w' : World) : Prop := Go.AW.Same w w' ∧ w.heap.size ≤ w'.heap.size ∧ ∀ k, k < w.heap.size → k ≠ g → w'.heap[k]? = w.heap[k]?
set_option maxHeartbeats 2000000 in
set_option maxRecDepth 100000 in
theorem Tryz.bldS_nil (b g : Nat) (w : World) (c0 : w.cell? ⟨b, 1, none⟩ = some (.slice none 0 0)) :
  Calls Tryz.prog 60 #[.pointer (some ⟨b, 0, none⟩)] w fun e w' => e = .returned (.string ⟨#[]⟩) ∧ But g w w' := by
 have hUS : ∀ (W : World) (q : Option Addr), (Builtin.unsafeString_ #[108, 3] 9 #[.pointer q, .int .i64 0]).run Tryz.prog W = .ok (.string .empty) W := fun W q => Lib.run_unsafeString_none W _ _ _ q
 have c1 : w.drew.cell? ⟨b, 1, none⟩ = some (.slice none 0 0) := c0
 have hSD : (Builtin.unsafeSliceData_ #[84] 108 #[.slice none 0 0]).run Tryz.prog w.drew = .ok (.pointer none) w.drew := rfl
 have mixed : Tryz.prog.follows .mixedOrders = true := by kernel_rfl
 go_enter Tryz.func60, Tryz.ntmps60
 go_wp2
 go_region_o
 all_goals (go_wp2; go_ret; exact ⟨rfl, ⟨rfl, rfl, rfl⟩, Nat.le_refl _, fun _ _ _ => rfl⟩)
set_option maxHeartbeats 2000000 in
set_option maxRecDepth 100000 in
theorem Tryz.bldS_room (b g cap : Nat) (w : World) (hc0 : cap ≠ 0) (c0 : w.cell? ⟨b, 1, none⟩ = some (.slice (some ⟨g, 0, none⟩) 0 cap)) :
  Calls Tryz.prog 60 #[.pointer (some ⟨b, 0, none⟩)] w fun e w' => e = .returned (.string ⟨#[]⟩) ∧ But g w w' := by
 have hUS : ∀ (W : World) (q : Option Addr), (Builtin.unsafeString_ #[108, 3] 9 #[.pointer q, .int .i64 0]).run Tryz.prog W = .ok (.string .empty) W := fun W q => Lib.run_unsafeString_none W _ _ _ q
 have c1 : w.drew.cell? ⟨b, 1, none⟩ = some (.slice (some ⟨g, 0, none⟩) 0 cap) := c0
 have hSD : (Builtin.unsafeSliceData_ #[84] 108 #[.slice (some ⟨g, 0, none⟩) 0 cap]).run Tryz.prog w.drew = .ok (.pointer (some ⟨g, 0, none⟩)) w.drew := Lib.run_unsafeSliceData_row _ _ _ _ _ _ hc0
 clear hc0
 have mixed : Tryz.prog.follows .mixedOrders = true := by kernel_rfl
 go_enter Tryz.func60, Tryz.ntmps60
 go_wp2
 go_region_o
 all_goals (go_wp2; go_ret; exact ⟨rfl, ⟨rfl, rfl, rfl⟩, Nat.le_refl _, fun _ _ _ => rfl⟩)
set_option maxHeartbeats 2000000 in
set_option maxRecDepth 100000 in
theorem Tryz.bldS_noroom (b g : Nat) (cur : Array Value) (fr : Nat × Nat) (w : World) (hlt : b < w.heap.size) (c0 : w.cell? ⟨b, 1, none⟩ = some (.slice (some ⟨g, 0, none⟩) 0 0)) (hg : w.heap[g]? = some (.cells cur 5 fr)) :
  Calls Tryz.prog 60 #[.pointer (some ⟨b, 0, none⟩)] w fun e w' => e = .returned (.string ⟨#[]⟩) ∧ But g w w' := by
 have hUS : ∀ (W : World) (q : Option Addr), (Builtin.unsafeString_ #[108, 3] 9 #[.pointer q, .int .i64 0]).run Tryz.prog W = .ok (.string .empty) W := fun W q => Lib.run_unsafeString_none W _ _ _ q
 have c1 : w.drew.cell? ⟨b, 1, none⟩ = some (.slice (some ⟨g, 0, none⟩) 0 0) := c0
 have hSD : (Builtin.unsafeSliceData_ #[84] 108 #[.slice (some ⟨g, 0, none⟩) 0 0]).run Tryz.prog w.drew = .ok (.pointer (some ⟨w.drew.heap.size, 0, none⟩)) (w.drew.alloc (.view ⟨g, 0, none⟩ 5)) :=
  Lib.run_unsafeSliceData_zero w.drew _ _ 5 Tryz.underlying108 ⟨g, 0, none⟩ 0 (5, cur.size) (by have hg' : w.drew.heap[g]? = some (.cells cur 5 fr) := hg; simp [World.shape?, hg'])
 have c2 : (w.drew.alloc (.view ⟨g, 0, none⟩ 5)).cell? ⟨b, 1, none⟩ = some (.slice (some ⟨g, 0, none⟩) 0 0) := by
  have e : (w.drew.alloc (.view ⟨g, 0, none⟩ 5)).heap[b]? = w.heap[b]? := Lib.alloc_old w.drew _ b hlt
  have h1 : (w.drew.alloc (.view ⟨g, 0, none⟩ 5)).cell? ⟨b, 1, none⟩ = w.cell? ⟨b, 1, none⟩ := by simp only [World.cell?, e]
  rw [h1]; exact c0
 have c3 : (w.alloc (.view ⟨g, 0, none⟩ 5)).drew.cell? ⟨b, 1, none⟩ = some (.slice (some ⟨g, 0, none⟩) 0 0) := c2
 have mixed : Tryz.prog.follows .mixedOrders = true := by kernel_rfl
 go_enter Tryz.func60, Tryz.ntmps60
 go_wp2
 go_region_o
 all_goals (go_wp2; go_ret; exact ⟨rfl, ⟨rfl, rfl, rfl⟩, by show w.heap.size ≤ (w.heap.push _).size; rw [Array.size_push]; omega, fun k hk _ => Lib.alloc_old w.drew _ k hk⟩)
set_option maxHeartbeats 2000000 in
set_option maxRecDepth 100000 in
theorem Tryz.bldS_some (b g cap : Nat) (cur : Array Value) (fr : Nat × Nat) (l : List UInt8) (w : World) (h0 : l ≠ []) (c0 : w.cell? ⟨b, 1, none⟩ = some (.slice (some ⟨g, 0, none⟩) l.length cap)) (hg : w.heap[g]? = some (.cells cur 5 fr)) (hcap : l.length ≤ cap) (hsz : cur.size = cap) (hcm : cap ≤ maxLen)
  (hcell : ∀ (j : Nat) (x : UInt8), l[j]? = some x → cur[j]? = some (.int .u8 x.toNat)) :
  Calls Tryz.prog 60 #[.pointer (some ⟨b, 0, none⟩)] w fun e w' => e = .returned (.string ⟨l.toArray⟩) ∧ But g w w' := by
 have hl0 : l.length ≠ 0 := by simpa using h0
 have c1 : w.drew.cell? ⟨b, 1, none⟩ = some (.slice (some ⟨g, 0, none⟩) l.length cap) := c0
 have hSD : (Builtin.unsafeSliceData_ #[84] 108 #[.slice (some ⟨g, 0, none⟩) l.length cap]).run Tryz.prog w.drew = .ok (.pointer (some ⟨g, 0, none⟩)) w.drew := Lib.run_unsafeSliceData_row _ _ _ _ _ _ (by omega)
 have hUS : (Builtin.unsafeString_ #[108, 3] 9 #[.pointer (some ⟨g, 0, none⟩), .int .i64 l.length]).run Tryz.prog w.drew = .ok (.string ⟨l.toArray⟩) (w.drew.freeze ⟨g, 0, none⟩ l.length) := by
  refine Lib.run_unsafeString_row w.drew 108 3 9 5 Tryz.underlying108 (by kernel_rfl) g cur.size (by have hg' : w.drew.heap[g]? = some (.cells cur 5 fr) := hg; simp [World.shape?, hg']) l h0 (by omega) (by unfold maxLen at hcm; omega) ?_
  intro j x hx
  have hg' : w.drew.heap[g]? = some (.cells cur 5 fr) := hg
  rw [Addr.add_lit, Nat.zero_add, Lib.cell_of_heap hg']
  exact hcell j x hx
 have hfz : But g w (w.drew.freeze ⟨g, 0, none⟩ l.length) := by
  unfold World.freeze
  rw [if_neg hl0]
  refine ⟨⟨rfl, rfl, rfl⟩, by show w.heap.size ≤ (w.heap.modify g _).size; simp, fun k hk hne => ?_⟩
  show (w.heap.modify g _)[k]? = _
  rw [Array.getElem?_modify, if_neg (fun e => hne e.symm)]
 clear hcell hsz hcap hcm h0 hl0 hg
 have mixed : Tryz.prog.follows .mixedOrders = true := by kernel_rfl
 go_enter Tryz.func60, Tryz.ntmps60
 go_wp2
 go_region_o
 all_goals (go_wp2; go_ret; exact ⟨rfl, hfz⟩)
end Go.Proofs
namespace Go.AW
open Go Go.Proofs Go.Lib
theorem repL_byt {w : World} {μ : Mu} : ∀ {l : List UInt8} {vs : List Value}, RepL w μ (l.map fun b => HV.int .u8 (b.toNat : Int)) vs → vs = l.map fun b => Value.int .u8 (b.toNat : Int)
 | [], vs, h => h
 | x :: l, vs, h => by
  obtain ⟨v, vs', rfl, hx, hr⟩ := h
  obtain ⟨rfl, _⟩ := hx
  rw [repL_byt hr]
  rfl
theorem c_String {H : Heap} {K : HV → Heap → Prop} {id ver aid aver : Nat} {u : Bool} {l : List UInt8} (hg : hget H id = some (ver, bldO id ver aid aver u l)) (ha : hget H aid = some (aver, bytO l)) (hK : ∀ av, K (.str l) ((aid, av, .arr 1 5 []) :: H)) :
  ACall Tryz.prog 60 [.ptr id ver 0] H K := by
 refine ⟨enters' Tryz.func60 rfl rfl, fun μ w vs hs hr _ => ?_⟩
 obtain ⟨x, xs, rfl, hr, hn⟩ := hr
 cases hn
 obtain ⟨lo, hl, hor⟩ := hs.has _ _ _ hg
 obtain ⟨la, hla, hora⟩ := hs.has _ _ _ ha
 have hle : ∀ v ob j (y : Nat × AObj), hget ((aid, v, ob) :: H) j = some y ↔ hget (hset H aid v ob) j = some y := fun v ob j y => by simp only [hget, hget_hset]
 have fin : ∀ (g : Nat) (w' : World), (∀ b, μ.loc aid = some (aver, some b) → b = g) → (la = none → w.heap.size ≤ g) → l.length ≤ maxLen → But g w w' → ∃ v r H' μ', Ending.returned (.string ⟨l.toArray⟩) = .returned v ∧ K r H' ∧ SR w' μ' H' ∧ Rep w' μ' r v ∧ Evo w μ w' μ' := by
  intro g w' hb hgn hlen ⟨h1, h2, h3⟩
  have hold : ∀ b, b < w.heap.size → (∀ ver, μ.loc aid ≠ some (ver, some b)) → w'.heap[b]? = w.heap[b]? := fun b hb1 hb2 => by
   by_cases e : b = g
   ·cases la with
    | none => exact absurd (hgn rfl) (by omega)
    | some b0 =>
     have := hb b0 hla
     subst this
     subst e
     exact absurd hla (hb2 _)
   ·exact h3 b hb1 e
  have hsr := hs.repl aid none (.arr 1 5 []) h1 h2 hold (fun b hb => by cases hb) rfl
  have hE := Evo.repl hs aid none h1 h2 hold (fun b hb => by cases hb)
  exact ⟨_, .str l, _, μ.set aid none, rfl, hK μ.nx, hsr.le (hle _ _), ⟨rfl, hlen⟩, hE⟩
 rcases hr with ⟨b, hl', rfl⟩ | ⟨hd, _⟩
 ·rw [hl] at hl'
  cases hl'
  obtain ⟨h1, cur, vs', rest, hrow, hcl, hrl⟩ := hor
  obtain ⟨v0, vs1, rfl, r0, v1, vs2, rfl, r1, hn⟩ := hrl
  cases hn
  have hrow2 := hrow
  obtain ⟨lo', hi', hbk, hfr⟩ := hrow2
  have hc1 : cur[1]? = some v1 := by rw [← Array.getElem?_toList, hcl]; rfl
  have hcell : w.cell? ⟨b, 1, none⟩ = some v1 := by rw [Lib.cell_of_heap hbk]; exact hc1
  have hlt : b < w.heap.size := by
   rcases Nat.lt_or_ge b w.heap.size with h' | h'
   ·exact h'
   ·simp [Array.getElem?_eq_none h'] at hbk
  rcases r1 with ⟨la', hla', ⟨rfl, rfl, h0, _⟩ | ⟨g, cap, curg, e, rfl, rfl, hnc, hcm, hrowg, hszg⟩⟩ | ⟨hd, _⟩
  ·have hln := List.eq_nil_of_length_eq_zero h0
   subst hln
   refine (Tryz.bldS_nil b w.heap.size w hcell).mono ?_
   rintro e w' ⟨rfl, hb⟩
   exact fin _ w' (fun b hb => by rw [hla'] at hb; cases hb) (fun _ => Nat.le_refl _) (Nat.zero_le _) hb
  ·rw [hla] at hla'
   cases hla'
   obtain ⟨_, cur2, vs2, rest2, hrow2, hcl2, hrl2⟩ := hora
   obtain ⟨lo2, hi2, hbg, hfr2⟩ := hrow2
   obtain ⟨lo3, hi3, hbg3, hfr3⟩ := hrowg
   rw [hbg] at hbg3
   cases hbg3
   have hvs := repL_byt hrl2
   subst hvs
   have hb1 : ∀ b, μ.loc aid = some (aver, some b) → b = g := fun b hb => by rw [hla] at hb; cases hb; rfl
   by_cases h0 : l = []
   ·subst h0
    by_cases hc0 : cap = 0
    ·subst hc0
     refine (Tryz.bldS_noroom b g curg _ w hlt hcell hbg).mono ?_
     rintro e w' ⟨rfl, hb⟩
     exact fin g w' hb1 (fun e => by cases e) (Nat.zero_le _) hb
    ·refine (Tryz.bldS_room b g cap w hc0 hcell).mono ?_
     rintro e w' ⟨rfl, hb⟩
     exact fin g w' hb1 (fun e => by cases e) (Nat.zero_le _) hb
   ·refine (Tryz.bldS_some b g cap curg _ l w h0 hcell hbg hnc (by omega) hcm fun j x hj => ?_).mono ?_
    ·rw [← Array.getElem?_toList, hcl2, List.getElem?_append_left (by
      have := (List.getElem?_eq_some_iff.1 hj).1
      simpa using this), List.getElem?_map, hj]
     rfl
    ·rintro e w' ⟨rfl, hb⟩
     exact fin g w' hb1 (fun e => by cases e) (by omega) hb
  ·exact absurd hla (hd.2 _)
 ·exact absurd hl (hd.2 _)
end Go.AW
namespace Go.AW
open Go Go.Proofs
set_option linter.unusedVariables false
set_option maxRecDepth 100000 in
theorem c_WriteString {H : Heap} {K : HV → Heap → Prop} {id ver aid aver : Nat} {u : Bool} {l m : List UInt8} (hid : aid ≠ id) (hg : hget H id = some (ver, bldO id ver aid aver u l)) (ha : hget H aid = some (aver, bytO l)) (hfit : fits 1 (l.length + m.length))
    (hK : ∀ av, K (.tup [.int .i64 (m.length : Int), .v .nilIface]) ((id, ver, bldO id ver aid av true (l ++ m)) :: (aid, av, bytO (l ++ m)) :: H)) : ACall Tryz.prog 58 [.ptr id ver 0, .str m] H K := by
  refine ACall.of_body Tryz.func58 rfl rfl (lb rfl) ?_
  unfold Tryz.f58
  dsimp only [enumS, Nat.reduceAdd]
  refine AW.rgs rfl fun K1 hK1 => ?_
  refine mv rfl rfl (mv rfl rfl ?_)
  refine b_nil (hK1 _ (AW.to (to_le (s' := ⟨[(0, .ptr id ver 0), (1, .str m)], H⟩) (le_slH ⟨rfl, rfl, trivial⟩) ?_)))
  clear hK1 K1
  refine AW.rgs rfl fun K1 hK1 => ?_
  refine mv rfl rfl ?_
  refine b_op rfl (o_callA rfl rfl rfl rfl (c_copyCheck hg ?_))
  refine b_nil (hK1 _ (AW.to (to_le (s' := ⟨[(0, .ptr id ver 0), (1, .str m)], (id, ver, .arr 2 98 [.ptr id ver 0, .ar aid aver 1 0 l.length]) :: H⟩) (le_slH ⟨rfl, rfl, trivial⟩) ?_)))
  clear hK1 K1
  have ha1 : hget ((id, ver, AObj.arr 2 98 [.ptr id ver 0, .ar aid aver 1 0 l.length]) :: H) aid = some (aver, .arr eByte.k 5 (eByte.E l)) := hget_1 hid ha
  refine AW.rgs rfl fun K1 hK1 => ?_
  refine mv rfl rfl (mv rfl rfl (bv rfl (v_nilP rfl hget_0) (bv rfl (v_fieldAddrP fo98_1 rfl hget_0) (bv rfl (v_loadP ty84 rfl hget_0 (l_lit rfl rfl)) (mv rfl rfl ?_)))))
  refine b_op rfl (o_appS (l := l) (m := m) rfl rfl ty84 ty9 ty5 rfl ha1 rfl rfl rfl hfit (fun av => ?_))
  refine bv rfl (v_nilP rfl (hget_1 (fun e => hid e.symm) hget_0)) (bv rfl (v_fieldAddrP fo98_1 rfl (hget_1 (fun e => hid e.symm) hget_0)) ?_)
  refine b_op rfl (o_store (cs := [.ar aid av 1 0 (l ++ m).length]) (zs := [.ptr id ver 0, .ar aid av 1 0 (l ++ m).length]) rfl rfl rfl ty84 rfl (hget_1 (fun e => hid e.symm) hget_0) rfl rfl rfl ?_)
  refine b_nil (hK1 _ (AW.to (to_le (s' := ⟨[(1, .str m)], (id, ver, .arr 2 98 [.ptr id ver 0, .ar aid av 1 0 (l ++ m).length]) :: (aid, av, .arr 1 5 (eByte.E (l ++ m))) :: H⟩) ⟨leS_get ⟨rfl, trivial⟩, fun j x hx => ?_⟩ ?_)))
  · simp only [hget] at hx ⊢
    by_cases h1 : j = id
    · subst h1; simpa using hx
    · rw [if_neg h1] at hx ⊢
      by_cases h2 : j = aid
      · rw [if_pos h2] at hx ⊢; exact hx
      · rw [if_neg h2] at hx
        rw [if_neg h2, if_neg h1]
        exact hx
  clear hK1 K1
  refine AW.rgs rfl fun K1 hK1 => ?_
  refine mv rfl rfl (bv rfl (v_lenS rfl rfl ty9 rfl) (mv rfl rfl (mv rfl rfl ?_)))
  refine b_nil (hK1 _ (AW.to (to_le (s' := ⟨[(4, .int .i64 (m.length : Int)), (5, .v .nilIface)], (id, ver, .arr 2 98 [.ptr id ver 0, .ar aid av 1 0 (l ++ m).length]) :: (aid, av, .arr 1 5 (eByte.E (l ++ m))) :: H⟩) (le_slH ⟨rfl, rfl, trivial⟩) ?_)))
  clear hK1 K1
  refine AW.ret ⟨.inr rfl, ?_⟩
  simp only [go_sem]
  exact ⟨_, _, Conv.refl _ _, hK av⟩
end Go.AW
namespace Go.AW
open Go
def letters : List UInt8 := [48, 49, 50, 51, 52, 53, 54, 55, 56, 57, 97, 98, 99, 100, 101, 102]
abbrev WS := List UInt8 × List Int
def ext1 (stp : List Int → UInt8 → List Int) (cs : List UInt8) (x : WS) : List WS := cs.filterMap fun c => if stp x.2 c = [] then none else some (x.1 ++ [c], stp x.2 c)
def lvl (stp : List Int → UInt8 → List Int) (cs : List UInt8) (set : List Int) : Nat → List WS
 | 0 => if set = [] then [] else [([], set)]
 | i + 1 => (lvl stp cs set i).flatMap (ext1 stp cs)
section
variable {stp : List Int → UInt8 → List Int} {cs : List UInt8} {set : List Int}
end
end Go.AW
namespace Go.AW
open Go
set_option linter.unusedVariables false
def m_law12_awake : Option Bool := some true
noncomputable def m_subset_key (p0 : List (Int)) : Option ((List UInt8)) :=
 (loopW (S := Int × (List UInt8)) (X := (List UInt8)) (fun a3 =>
   if a3.1 < ((p0).length : Int) then
    (idx p0 a3.1).bind fun x7 =>
    (m_strconv_Itoa x7).bind fun x9 =>
    if x9.length + [32].length ≤ maxLen then
     if fits 1 (a3.2.length + (x9 ++ [32]).length) then
      some (Stp.next (IntKind.wrap .i64 (a3.1 + 1), a3.2 ++ (x9 ++ [32])))
     else none
    else none
   else
    some (Stp.exit a3.2)) (0, ([] : List UInt8))).bind fun a14 =>
 some a14
noncomputable def m_subset_build (p0 : TLabelsStatesEdges) (p1 : List (Int)) : Option (TLabelsStatesEdges × (List (List (Int))) × Int) :=
 (m_subset_key p1).bind fun x3 =>
 (m_slices_Clone_Lint_int p1).bind fun x6 =>
 lpO (loopW (S := (List TFromLabelTo) × Int × (List (List UInt8 × Int)) × (List (List (Int)))) (X := Ou ((List TFromLabelTo) × (List (List (Int)))) (TLabelsStatesEdges × (List (List (Int))) × Int)) (fun a12 =>
   if a12.2.1 < (((a12.2.2.2).length : Nat) : Int) then
    (idx a12.2.2.2 a12.2.1).bind fun x16 =>
    (idx a12.2.2.2 a12.2.1).bind fun x18 =>
    jp (fun (a20 : (List TFromLabelTo) × (List (List UInt8 × Int)) × (List (List (Int)))) =>
     jp (fun (a23 : Bool) =>
      if a23 = true then
       some (Stp.exit (Ou.ret ((0, 0, []), [], 4)))
      else
       some (Stp.next (a20.1, IntKind.wrap .i64 (a12.2.1 + 1), a20.2.1, a20.2.2)))
      fun k25 =>
      if 64 < (((a20.2.2).length : Nat) : Int) then
       k25 true
      else
       k25 (decide (1024 < (((a20.1).length : Nat) : Int))))
     fun k22 =>
     (loopW (S := Int × (List TFromLabelTo) × (List (List UInt8 × Int)) × (List (List (Int)))) (X := (List TFromLabelTo) × (List (List UInt8 × Int)) × (List (List (Int)))) (fun a28 =>
       if a28.1 < p0.1 then
        jp (fun (a32 : (List TFromLabelTo) × (List (List UInt8 × Int)) × (List (List (Int)))) =>
         some (Stp.next (IntKind.wrap .i64 (a28.1 + 1), a32.1, a32.2.1, a32.2.2)))
         fun k34 =>
         (m_graph_Step p0 x18 a28.1).bind fun x35 =>
         if 0 < ((x35.1).length : Int) then
          jp (fun (a37 : (List TFromLabelTo) × (List (List UInt8 × Int)) × (List (List (Int)))) =>
           k34 (a37.1, a37.2.1, a37.2.2))
           fun k39 =>
           (m_subset_key x35.1).bind fun x40 =>
           jp (fun (a42 : Int × (List (List UInt8 × Int)) × (List (List (Int)))) =>
            if fits 24 ((a28.2.1 : List TFromLabelTo).length + ([(a12.2.1, a28.1, a42.1)]).length) then
             k39 (a28.2.1 ++ [(a12.2.1, a28.1, a42.1)], a42.2.1, a42.2.2)
            else none)
            fun k44 =>
            if (!((mlook x40 a28.2.2.1).isSome)) = true then
             (m_subset_key x35.1).bind fun x47 =>
             if fits 24 ((a28.2.2.2 : List (List (Int))).length + ([x35.1]).length) then
              k44 ((((a28.2.2.2).length : Nat) : Int), mputN x47 (((a28.2.2.2).length : Nat) : Int) a28.2.2.1, a28.2.2.2 ++ [x35.1])
             else none
            else
             k44 ((mlook x40 a28.2.2.1).getD 0, a28.2.2.1, a28.2.2.2)
         else
          k34 (a28.2.1, a28.2.2.1, a28.2.2.2)
       else
        some (Stp.exit (a28.2.1, a28.2.2.1, a28.2.2.2))) (0, a12.1, a12.2.2.1, a12.2.2.2)).bind fun a51 =>
     k22 (a51.1, a51.2.1, a51.2.2)
   else
    some (Stp.exit (Ou.go (a12.1, a12.2.2.2)))) (([] : List TFromLabelTo), 0, mputN x3 0 ([] : List (List UInt8 × Int)), [x6])) (fun a54 =>
   some ((p0.1, (((a54.2).length : Nat) : Int), a54.1), a54.2, 0)) some
noncomputable def m_subset_Build (p0 : TLabelsStatesEdges) : Option (TLabelsStatesEdges × (List (List (Int))) × Int) :=
 (m_graph_Check p0).bind fun x2 =>
 if x2 ≠ 0 then
  some ((0, 0, []), [], 1)
 else
  if p0.2.1 = 0 then
   some ((p0.1, 0, []), [], 0)
  else
   if 0 ≤ (p0.2.1 : Int) ∧ (p0.2.1 : Int) ≤ p0.2.1 ∧ (p0.2.1 : Int) * 8 ≤ 281474976710656 then
    (loopW (S := Int × (List Int)) (X := (List Int)) (fun a6 =>
      if a6.1 < (((List.replicate (p0.2.1).toNat (0 : Int)).length : Nat) : Int) then
       (idx a6.2 a6.1).bind fun x10 =>
       some (Stp.next (IntKind.wrap .i64 (a6.1 + 1), (a6.2).set (a6.1).toNat a6.1))
      else
       some (Stp.exit a6.2)) (0, List.replicate (p0.2.1).toNat (0 : Int))).bind fun a12 =>
    (m_subset_build p0 a12).bind fun x14 =>
    some (x14.1, x14.2.1, x14.2.2)
   else none
noncomputable def m_subset_Focus (p0 : TLabelsStatesEdges) : Option ((List (Int)) × Int × Bool × Int) :=
 (m_subset_Build p0).bind fun x1 =>
 jp (fun (a4 : Bool) =>
  if a4 = true then
   some ([], 0, false, x1.2.2)
  else
   if 0 ≤ (x1.1.2.1 : Int) ∧ (x1.1.2.1 : Int) ≤ x1.1.2.1 ∧ (x1.1.2.1 : Int) * 24 ≤ 281474976710656 then
    lpO (loopW (S := Int × Int × (List (List (Int)))) (X := Ou (Unit) ((List (Int)) × Int × Bool × Int)) (fun a9 =>
      if a9.1 < x1.1.2.1 then
       (idx x1.2.1 a9.1).bind fun x13 =>
       if ((x13).length : Int) = 1 then
        (idx a9.2.2 a9.1).bind fun x15 =>
        (idx a9.2.2 a9.1).bind fun x17 =>
        (idx x1.2.1 a9.1).bind fun x19 =>
        (idx x19 0).bind fun x21 =>
        some (Stp.exit (Ou.ret (x17, x21, true, 0)))
       else
        (loopW (S := Int × Int × (List (List (Int)))) (X := (List (List (Int))) × Int) (fun a23 =>
          if a23.2.1 < ((x1.1.2.2).length : Int) then
           jp (fun (a27 : Int × (List (List (Int)))) =>
            some (Stp.next (a27.1, IntKind.wrap .i64 (a23.2.1 + 1), a27.2)))
            fun k29 =>
            (idx x1.1.2.2 a23.2.1).bind fun x30 =>
            jp (fun (a33 : Bool) =>
             if a33 = true then
              (idx a23.2.2 a9.1).bind fun x360401 =>
              (idx a23.2.2 a9.1).bind fun x360501 =>
              (m_slices_Clone_Lint_int x360501).bind fun x360601 =>
              if fits 8 ((x360601 : List Int).length + ([x30.2.1]).length) then
               (idx a23.2.2 a23.1).bind fun x361101 =>
               k29 (IntKind.wrap .i64 (a23.1 + 1), (a23.2.2).set (a23.1).toNat (x360601 ++ [x30.2.1]))
              else none
             else
              k29 (a23.1, a23.2.2))
             fun k35 =>
             if x30.1 = a9.1 then
              k35 (decide (x30.2.2 = a23.1))
             else
              k35 false
          else
           some (Stp.exit (a23.2.2, a23.1))) (a9.2.1, 0, a9.2.2)).bind fun a38 =>
        some (Stp.next (IntKind.wrap .i64 (a9.1 + 1), a38.2, a38.1))
      else
       some (Stp.exit (Ou.go ()))) (0, 1, List.replicate (x1.1.2.1).toNat ([] : List (Int)))) (fun a40 =>
      some ([], 0, false, 0)) some
   else none)
  fun k6 =>
  if x1.2.2 ≠ 0 then
   k6 true
  else
   k6 (decide (x1.1.2.1 = 0))
noncomputable def m_ref12_Same (p0 : List (Int)) (p1 : List (Int)) : Option (Bool) :=
 if ((p0).length : Int) ≠ ((p1).length : Int) then
  some false
 else
  lpO (loopW (S := Int) (X := Ou (Unit) (Bool)) (fun a1 =>
    if a1 < ((p0).length : Int) then
     (idx p0 a1).bind fun x5 =>
     (idx p1 a1).bind fun x7 =>
     if x5 ≠ x7 then
      some (Stp.exit (Ou.ret false))
     else
      some (Stp.next (IntKind.wrap .i64 (a1 + 1)))
    else
     some (Stp.exit (Ou.go ()))) 0) (fun a9 =>
    some true) some
noncomputable def m_ref12_SameSets (p0 : List (List (Int))) (p1 : List (List (Int))) : Option (Bool) :=
 if ((p0).length : Int) ≠ ((p1).length : Int) then
  some false
 else
  lpO (loopW (S := Int) (X := Ou (Unit) (Bool)) (fun a1 =>
    if a1 < ((p0).length : Int) then
     (idx p0 a1).bind fun x5 =>
     (idx p1 a1).bind fun x7 =>
     (m_ref12_Same x5 x7).bind fun x9 =>
     if (!x9) = true then
      some (Stp.exit (Ou.ret false))
     else
      some (Stp.next (IntKind.wrap .i64 (a1 + 1)))
    else
     some (Stp.exit (Ou.go ()))) 0) (fun a11 =>
    some true) some
noncomputable def m_law12_even  : Option (TLabelsStatesEdges) :=
 some (2, 2, [(0, 0, 1), (0, 1, 0), (1, 0, 0)])
noncomputable def m_subset_Count (p0 : TLabelsStatesEdges) (p1 : Int) : Option (TNegMag × Int) :=
 (m_graph_Check p0).bind fun x2 =>
 if x2 ≠ 0 then
  some ((false, ([] : List UInt8)), 1)
 else
  jp (fun (a4 : Bool) =>
   if a4 = true then
    some ((false, ([] : List UInt8)), 2)
   else
    (m_subset_Build p0).bind fun x7 =>
    jp (fun (a10 : Bool) =>
     if a10 = true then
      some ((false, ([] : List UInt8)), x7.2.2)
     else
      if 0 ≤ (x7.1.2.1 : Int) ∧ (x7.1.2.1 : Int) ≤ x7.1.2.1 ∧ (x7.1.2.1 : Int) * 24 ≤ 281474976710656 then
       (m_integer_Of 1).bind fun x15 =>
       (idx (List.replicate (x7.1.2.1).toNat ((false, ([] : List UInt8)) : TNegMag)) 0).bind fun x17 =>
       (loopW (S := (List TNegMag) × Int) (X := (List TNegMag)) (fun a19 =>
         if a19.2 < p1 then
          if 0 ≤ (x7.1.2.1 : Int) ∧ (x7.1.2.1 : Int) ≤ x7.1.2.1 ∧ (x7.1.2.1 : Int) * 24 ≤ 281474976710656 then
           (loopW (S := Int × (List TNegMag)) (X := (List TNegMag)) (fun a25 =>
             if a25.1 < ((x7.1.2.2).length : Int) then
              (idx x7.1.2.2 a25.1).bind fun x29 =>
              (idx a25.2 x29.2.2).bind fun x32 =>
              (idx a25.2 x29.2.2).bind fun x34 =>
              (idx a19.1 x29.1).bind fun x36 =>
              (m_integer_Add x34 x36).bind fun x38 =>
              (idx a25.2 x29.2.2).bind fun x40 =>
              some (Stp.next (IntKind.wrap .i64 (a25.1 + 1), (a25.2).set (x29.2.2).toNat x38))
             else
              some (Stp.exit a25.2)) (0, List.replicate (x7.1.2.1).toNat ((false, ([] : List UInt8)) : TNegMag))).bind fun a42 =>
           some (Stp.next (a42, IntKind.wrap .i64 (a19.2 + 1)))
          else none
         else
          some (Stp.exit a19.1)) ((List.replicate (x7.1.2.1).toNat ((false, ([] : List UInt8)) : TNegMag)).set (0 : Int).toNat x15, 0)).bind fun a44 =>
       (loopW (S := Int × Bool × (List UInt8)) (X := Bool × (List UInt8)) (fun a47 =>
         if a47.1 < ((a44).length : Int) then
          (idx a44 a47.1).bind fun x51 =>
          (m_integer_Add (a47.2.1, a47.2.2) x51).bind fun x54 =>
          some (Stp.next (IntKind.wrap .i64 (a47.1 + 1), x54.1, x54.2))
         else
          some (Stp.exit (a47.2.1, a47.2.2))) (0, false, ([] : List UInt8))).bind fun a56 =>
       some ((a56.1, a56.2), 0)
      else none)
     fun k12 =>
     if x7.2.2 ≠ 0 then
      k12 true
     else
      k12 (decide (x7.1.2.1 = 0)))
   fun k6 =>
   if p1 < 0 then
    k6 true
   else
    k6 (decide (4096 < p1))
noncomputable def m_ref01_Of (p0 : Int) : Option (TNegMag) :=
 if 0 ≤ p0 then
  (m_ref01_magB p0).bind fun x2 =>
  some (false, x2)
 else
  if p0 = (IntKind.wrap .i64 (0 - p0)) then
   some (true, [128, 0, 0, 0, 0, 0, 0, 0])
  else
   (m_ref01_magB (IntKind.wrap .i64 (0 - p0))).bind fun x4 =>
   some (true, x4)
noncomputable def m_law12_awakeG  : Option (Bool) :=
 (m_law12_even).bind fun x1 =>
 (m_subset_Build x1).bind fun x3 =>
 (m_law12_even).bind fun x6 =>
 (m_subset_Focus x6).bind fun x8 =>
 (m_law12_even).bind fun x10 =>
 (m_subset_Count x10 3).bind fun x12 =>
 jp (fun (a15 : Bool) =>
  jp (fun (a18 : Bool) =>
   some a18)
   fun k20 =>
   if a15 = true then
    if x3.1.2.1 = 3 then
     if ((x3.1.2.2).length : Int) = 5 then
      (m_ref12_SameSets x3.2.1 [[0, 1], [0], [1]]).bind fun x21 =>
      k20 x21
     else
      k20 false
    else
     k20 false
   else
    k20 false)
  fun k17 =>
  if (max (max x3.2.2 x8.2.2.2) x12.2) = 0 then
   if x8.2.2.1 = true then
    if x8.2.1 = 0 then
     (m_ref12_Same x8.1 [1]).bind fun x26 =>
     if x26 = true then
      (m_ref01_Of 7).bind fun x28 =>
      k17 (decide (x12.1 = x28))
     else
      k17 false
    else
     k17 false
   else
    k17 false
  else
   k17 false
noncomputable def m_ref09_Great (p0 : TLabelsStatesEdges) : Option (Bool) :=
 jp (fun (a1 : Bool) =>
  some a1)
  fun k3 =>
  if 30 < ((p0.2.2).length : Int) then
   k3 true
  else
   if 10 < p0.2.1 then
    k3 (decide (p0.2.1 ≤ 64))
   else
    k3 false
noncomputable def m_law12_great (p0 : TLabelsStatesEdges) : Option (Bool) :=
 (m_ref09_Great p0).bind fun x1 =>
 some x1
noncomputable def m_ref09_CheckSet (p0 : TLabelsStatesEdges) (p1 : List (Int)) : Option (Int) :=
 lpO (loopW (S := Int) (X := Ou (Unit) (Int)) (fun a1 =>
   if a1 < ((p1).length : Int) then
    jp (fun (a5 : Bool) =>
     if a5 = true then
      some (Stp.exit (Ou.ret 25))
     else
      jp (fun (a8 : Bool) =>
       if a8 = true then
        some (Stp.exit (Ou.ret 10))
       else
        some (Stp.next (IntKind.wrap .i64 (a1 + 1))))
       fun k10 =>
       if 0 < a1 then
        (idx p1 a1).bind fun x11 =>
        (idx p1 (IntKind.wrap .i64 (a1 - 1))).bind fun x13 =>
        k10 (decide (x11 ≤ x13))
       else
        k10 false)
     fun k7 =>
     (idx p1 a1).bind fun x16 =>
     if x16 < 0 then
      k7 true
     else
      (idx p1 a1).bind fun x18 =>
      k7 (decide (p0.2.1 ≤ x18))
   else
    some (Stp.exit (Ou.go ()))) 0) (fun a21 =>
   some 0) some
noncomputable def m_ref09_Has (p0 : List (Int)) (p1 : Int) : Option (Bool) :=
 lpO (loopW (S := Int) (X := Ou (Unit) (Bool)) (fun a1 =>
   if a1 < ((p0).length : Int) then
    (idx p0 a1).bind fun x5 =>
    if x5 = p1 then
     some (Stp.exit (Ou.ret true))
    else
     some (Stp.next (IntKind.wrap .i64 (a1 + 1)))
   else
    some (Stp.exit (Ou.go ()))) 0) (fun a7 =>
   some false) some
noncomputable def m_ref09_Next (p0 : TLabelsStatesEdges) (p1 : List (Int)) (p2 : Int) : Option ((List (Int))) :=
 (loopW (S := Int × (List Int)) (X := (List Int)) (fun a1 =>
   if a1.1 < p0.2.1 then
    jp (fun (a5 : (List Int)) =>
     some (Stp.next (IntKind.wrap .i64 (a1.1 + 1), a5)))
     fun k7 =>
     (loopW (S := Bool × Int) (X := Bool) (fun a8 =>
       if a8.2 < ((p0.2.2).length : Int) then
        jp (fun (a12 : Bool) =>
         some (Stp.next (a12, IntKind.wrap .i64 (a8.2 + 1))))
         fun k14 =>
         (idx p0.2.2 a8.2).bind fun x15 =>
         if a8.1 = true then
          k14 true
         else
          if x15.2.2 = a1.1 then
           if x15.2.1 = p2 then
            (m_ref09_Has p1 x15.1).bind fun x18 =>
            k14 x18
           else
            k14 false
          else
           k14 false
       else
        some (Stp.exit a8.1)) (false, 0)).bind fun a23 =>
     if a23 = true then
      if fits 8 ((a1.2 : List Int).length + ([a1.1]).length) then
       k7 (a1.2 ++ [a1.1])
      else none
     else
      k7 a1.2
   else
    some (Stp.exit a1.2)) (0, ([] : List Int))).bind fun a28 =>
 some a28
noncomputable def m_ref09_Step (p0 : TLabelsStatesEdges) (p1 : List (Int)) (p2 : Int) : Option ((List (Int)) × Int) :=
 (m_ref09_Check p0).bind fun x1 =>
 if x1 ≠ 0 then
  some ([], 1)
 else
  (m_ref09_CheckSet p0 p1).bind fun x3 =>
  if x3 ≠ 0 then
   some ([], x3)
  else
   jp (fun (a5 : Bool) =>
    if a5 = true then
     some ([], 2)
    else
     (m_ref09_Next p0 p1 p2).bind fun x8 =>
     some (x8, 0))
    fun k7 =>
    if p2 < 0 then
     k7 true
    else
     k7 (decide (p0.1 ≤ p2))
noncomputable def m_ref12_index (p0 : List (List (Int))) (p1 : List (Int)) : Option (Int) :=
 lpO (loopW (S := Int) (X := Ou (Unit) (Int)) (fun a1 =>
   if a1 < ((p0).length : Int) then
    (idx p0 a1).bind fun x5 =>
    (m_ref12_Same x5 p1).bind fun x7 =>
    if x7 = true then
     some (Stp.exit (Ou.ret a1))
    else
     some (Stp.next (IntKind.wrap .i64 (a1 + 1)))
   else
    some (Stp.exit (Ou.go ()))) 0) (fun a9 =>
   some (-1)) some
noncomputable def m_ref12_sets (p0 : TLabelsStatesEdges) (p1 : List (Int)) : Option (TLabelsStatesEdges × (List (List (Int))) × Bool) :=
 lpO (loopW (S := Int × (List (List (Int))) × (List TFromLabelTo)) (X := Ou ((List (List (Int))) × (List TFromLabelTo)) (TLabelsStatesEdges × (List (List (Int))) × Bool)) (fun a4 =>
   if a4.1 < (((a4.2.1).length : Nat) : Int) then
    lpO (loopW (S := Int × (List (List (Int))) × (List TFromLabelTo)) (X := Ou ((List (List (Int))) × (List TFromLabelTo)) (TLabelsStatesEdges × (List (List (Int))) × Bool)) (fun a8 =>
      if a8.1 < p0.1 then
       jp (fun (a12 : (List (List (Int))) × (List TFromLabelTo)) =>
        some (Stp.next (IntKind.wrap .i64 (a8.1 + 1), a12.1, a12.2)))
        fun k14 =>
        (idx a8.2.1 a4.1).bind fun x15 =>
        (idx a8.2.1 a4.1).bind fun x17 =>
        (m_ref09_Step p0 x17 a8.1).bind fun x19 =>
        if ((x19.1).length : Int) = 0 then
         k14 (a8.2.1, a8.2.2)
        else
         (m_ref12_index a8.2.1 x19.1).bind fun x21 =>
         jp (fun (a23 : Int × (List (List (Int)))) =>
          if fits 24 ((a8.2.2 : List TFromLabelTo).length + ([(a4.1, a8.1, a23.1)]).length) then
           jp (fun (a28 : Bool) =>
            if a28 = true then
             some (Stp.exit (Ou.ret ((0, 0, []), [], false)))
            else
             k14 (a23.2, a8.2.2 ++ [(a4.1, a8.1, a23.1)]))
            fun k30 =>
            if 64 < (((a23.2).length : Nat) : Int) then
             k30 true
            else
             k30 (decide (1024 < (((a8.2.2 ++ [(a4.1, a8.1, a23.1)]).length : Nat) : Int)))
          else none)
          fun k25 =>
          if x21 = (-1) then
           if fits 24 ((a8.2.1 : List (List (Int))).length + ([x19.1]).length) then
            k25 ((((a8.2.1).length : Nat) : Int), a8.2.1 ++ [x19.1])
           else none
          else
           k25 (x21, a8.2.1)
      else
       some (Stp.exit (Ou.go (a8.2.1, a8.2.2)))) (0, a4.2.1, a4.2.2)) (fun a34 =>
      some (Stp.next (IntKind.wrap .i64 (a4.1 + 1), a34.1, a34.2))) (fun r => some (Stp.exit (Ou.ret r)))
   else
    some (Stp.exit (Ou.go (a4.2.1, a4.2.2)))) (0, [p1], ([] : List TFromLabelTo))) (fun a37 =>
   some ((p0.1, (((a37.1).length : Nat) : Int), a37.2), a37.1, true)) some
noncomputable def m_ref12_From (p0 : TLabelsStatesEdges) (p1 : List (Int)) : Option (TLabelsStatesEdges × (List (List (Int))) × Int) :=
 (m_ref09_Check p0).bind fun x2 =>
 if x2 ≠ 0 then
  some ((0, 0, []), [], 1)
 else
  if ((p1).length : Int) = 0 then
   some ((0, 0, []), [], 5)
  else
   lpO (loopW (S := Int) (X := Ou (Unit) (TLabelsStatesEdges × (List (List (Int))) × Int)) (fun a4 =>
     if a4 < ((p1).length : Int) then
      jp (fun (a8 : Bool) =>
       if a8 = true then
        some (Stp.exit (Ou.ret ((0, 0, []), [], 25)))
       else
        jp (fun (a11 : Bool) =>
         if a11 = true then
          some (Stp.exit (Ou.ret ((0, 0, []), [], 10)))
         else
          some (Stp.next (IntKind.wrap .i64 (a4 + 1))))
         fun k13 =>
         if 0 < a4 then
          (idx p1 a4).bind fun x14 =>
          (idx p1 (IntKind.wrap .i64 (a4 - 1))).bind fun x16 =>
          k13 (decide (x14 ≤ x16))
         else
          k13 false)
       fun k10 =>
       (idx p1 a4).bind fun x19 =>
       if x19 < 0 then
        k10 true
       else
        (idx p1 a4).bind fun x21 =>
        k10 (decide (p0.2.1 ≤ x21))
     else
      some (Stp.exit (Ou.go ()))) 0) (fun a24 =>
     (m_ref12_sets p0 p1).bind fun x26 =>
     if (!x26.2.2) = true then
      some ((0, 0, []), [], 4)
     else
      some (x26.1, x26.2.1, 0)) some
noncomputable def m_ref12_states (p0 : TLabelsStatesEdges) : Option ((List (Int))) :=
 (loopW (S := Int × (List Int)) (X := (List Int)) (fun a2 =>
   if a2.1 < p0.2.1 then
    if fits 8 ((a2.2 : List Int).length + ([a2.1]).length) then
     some (Stp.next (IntKind.wrap .i64 (a2.1 + 1), a2.2 ++ [a2.1]))
    else none
   else
    some (Stp.exit a2.2)) (0, [])).bind fun a8 =>
 some a8
noncomputable def m_ref12_Build (p0 : TLabelsStatesEdges) : Option (TLabelsStatesEdges × (List (List (Int))) × Int) :=
 (m_ref09_Check p0).bind fun x2 =>
 if x2 ≠ 0 then
  some ((0, 0, []), [], 1)
 else
  if p0.2.1 = 0 then
   some ((p0.1, 0, []), [], 0)
  else
   (m_ref12_states p0).bind fun x4 =>
   (m_ref12_From p0 x4).bind fun x6 =>
   some (x6.1, x6.2.1, x6.2.2)
noncomputable def m_graph_Deterministic (p0 : TLabelsStatesEdges) : Option (Bool × Int) :=
 (m_graph_Check p0).bind fun x1 =>
 if x1 ≠ 0 then
  some (false, 1)
 else
  lpO (loopW (S := Int) (X := Ou (Unit) (Bool × Int)) (fun a3 =>
    if a3 < ((p0.2.2).length : Int) then
     (idx p0.2.2 (IntKind.wrap .i64 (a3 - 1))).bind fun x70401 =>
     (idx p0.2.2 a3).bind fun x70901 =>
     jp (fun (a8 : Bool) =>
      if a8 = true then
       some (Stp.exit (Ou.ret (false, 0)))
      else
       some (Stp.next (IntKind.wrap .i64 (a3 + 1))))
      fun k10 =>
      if x70401.1 = x70901.1 then
       k10 (decide (x70401.2.1 = x70901.2.1))
      else
       k10 false
    else
     some (Stp.exit (Ou.go ()))) 1) (fun a12 =>
    some (true, 0)) some
end Go.AW
