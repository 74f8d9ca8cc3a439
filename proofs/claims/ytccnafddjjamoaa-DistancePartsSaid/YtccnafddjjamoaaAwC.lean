/- The operations that only compute: what each gives on abstract values (aval), and that the model's operation does just that. -/
import Derived.Test.YtccnafddjjamoaaAwB
import Derived.OpenShut
import Derived.Laws.Cover4
namespace Go.AW
open Go

structure TyI where
  desc : TypeDesc
  size : Nat
  bytes : Nat
  zero : Value

def ty (P : Program) (t : TypeId) : Option TyI :=
  match P.underlying t, P.info? t with
  | some d, some i => match i.zero with
    | some z => some ⟨d, i.size, i.bytes, z⟩
    | none => none
  | _, _ => none

def aggD : TypeDesc → Bool
  | .struct _ | .array _ _ => true
  | _ => false

section
variable {P : Program} {t : TypeId} {T : TyI}

theorem ty_spec (h : ty P t = some T) : P.underlying t = some T.desc ∧ ∃ i, P.info? t = some i ∧ i.size = T.size ∧ i.bytes = T.bytes ∧ i.zero = some T.zero := by
  unfold ty at h
  split at h
  · rename_i d i hd hi
    split at h
    · rename_i z hz
      cases h
      exact ⟨hd, i, hi, rfl, rfl, hz⟩
    · cases h
  · cases h

theorem ty_under (h : ty P t = some T) (w : World) : (underlying t).run P w = .ok T.desc w := run_underlying (ty_spec h).1 w
theorem ty_info (h : ty P t = some T) (w : World) : ∃ i, (typeInfo t).run P w = .ok i w ∧ i.size = T.size ∧ i.bytes = T.bytes ∧ i.zero = some T.zero := by
  obtain ⟨_, i, hi, h1, h2, h3⟩ := ty_spec h
  exact ⟨i, by simp [typeInfo, hi], h1, h2, h3⟩
theorem ty_sizeOf (h : ty P t = some T) (w : World) : (sizeOf t).run P w = .ok T.size w := by
  obtain ⟨i, hi, h1, _⟩ := ty_info h w
  simp [sizeOf, hi, h1]
theorem ty_zero (h : ty P t = some T) (w : World) : (zeroValue t).run P w = .ok T.zero w := by
  obtain ⟨i, hi, _, _, h1⟩ := ty_info h w
  simp [zeroValue, hi, h1]
theorem ty_isAgg (h : ty P t = some T) (w : World) : (isAgg t).run P w = .ok (aggD T.desc) w := by
  simp only [isAgg, Sem.run_bind, ty_under h, Result.andThen_ok]
  cases T.desc <;> simp [aggD]
end

theorem run_loadCells_seg {P : Program} {w : World} {b base : Nat} {vs : List Value} (h : Seg w b base vs) (off n : Nat) (hn : off + n ≤ vs.length) :
    (loadCells ⟨b, base + off, none⟩ n).run P w = .ok ((vs.drop off).take n).toArray w := by
  have hl : ((vs.drop off).take n).length = n := by simp; omega
  have := run_loadCells_list (P := P) w ⟨b, base + off, none⟩ ((vs.drop off).take n) (fun j v hj => by
    rw [Addr.add_lit]
    have hd := (h.drop off (by omega)).take n
    exact hd.cell hj)
  rwa [hl] at this

def loadK (T : TyI) (cs : List HV) (off : Nat) (R : HV → Prop) : Prop :=
  if aggD T.desc then off + T.size ≤ cs.length ∧ R (.agg ((cs.drop off).take T.size))
  else match cs[off]? with
    | some c => R c
    | none => False

theorem run_loadVar_seg {P : Program} {w : World} {μ : Mu} {t : TypeId} {T : TyI} (hT : ty P t = some T) {b base : Nat} {vs : List Value} (h : Seg w b base vs) {cs : List HV} (h1 : ones cs) (hc : RepL w μ cs vs)
    (off : Nat) {R : HV → Prop} (hk : loadK T cs off R) : ∃ v hv, (loadVar t ⟨b, base + off, none⟩).run P w = .ok v w ∧ R hv ∧ Rep w μ hv v := by
  unfold loadK at hk
  by_cases ha : aggD T.desc
  · rw [if_pos ha] at hk
    obtain ⟨h3, h2⟩ := hk
    refine ⟨.agg ((vs.drop off).take T.size).toArray, _, ?_, h2, ⟨(h1.drop off).take T.size, _, rfl, (hc.drop off).take T.size⟩⟩
    simp [loadVar, ty_isAgg hT, ha, ty_sizeOf hT, run_loadCells_seg h off T.size (by have := hc.length; omega)]
  · rw [if_neg ha] at hk
    split at hk
    · rename_i c hcs
      obtain ⟨x, hx, hr⟩ := hc.get hcs
      refine ⟨x, c, ?_, hk, hr⟩
      simp [loadVar, ty_isAgg hT, ha, h.cell hx]
    · exact hk.elim

/-- the arithmetic and the comparisons -/
def abin (op : BinOp) (x y : HV) (R : HV → Prop) : Prop :=
  match op, x, y with
  | .add, .int k a, .int k' b => k = k' ∧ R (.int k (k.wrap (a + b)))
  | .sub, .int k a, .int k' b => k = k' ∧ R (.int k (k.wrap (a - b)))
  | .mul, .int k a, .int k' b => k = k' ∧ R (.int k (k.wrap (a * b)))
  | .quo, .int k a, .int k' b => k = k' ∧ b ≠ 0 ∧ R (.int k (k.wrap (a.tdiv b)))
  | .rem, .int k a, .int k' b => k = k' ∧ b ≠ 0 ∧ R (.int k (a.tmod b))
  | .eql, .int k a, .int k' b => k = k' ∧ R (.bool (decide (a = b)))
  | .neq, .int k a, .int k' b => k = k' ∧ R (.bool (decide (a ≠ b)))
  | .lss, .int k a, .int k' b => k = k' ∧ R (.bool (decide (a < b)))
  | .leq, .int k a, .int k' b => k = k' ∧ R (.bool (decide (a ≤ b)))
  | .gtr, .int k a, .int k' b => k = k' ∧ R (.bool (decide (b < a)))
  | .geq, .int k a, .int k' b => k = k' ∧ R (.bool (decide (b ≤ a)))
  | .add, .str a, .str b => a.length + b.length ≤ maxLen ∧ R (.str (a ++ b))
  | .eql, .str a, .str b => R (.bool (decide (a = b)))
  | .neq, .str a, .str b => R (.bool (decide (a ≠ b)))
  | .lss, .str a, .str b => R (.bool (Op.bytesLess a b))
  | .gtr, .str a, .str b => R (.bool (!(Op.bytesLess a b || decide (a = b))))
  | .leq, .str a, .str b => R (.bool (Op.bytesLess a b || decide (a = b)))
  | .geq, .str a, .str b => R (.bool (!(Op.bytesLess a b)))
  | _, _, _ => False

theorem tmod_le {a : Int} (b : Int) (h : 0 ≤ a) : a.tmod b ≤ a := by
  obtain ⟨m, rfl⟩ := Int.eq_ofNat_of_zero_le h
  rcases Int.le_total 0 b with hb | hb
  · obtain ⟨n, rfl⟩ := Int.eq_ofNat_of_zero_le hb
    rw [← Int.ofNat_tmod]
    have := Nat.mod_le m n
    omega
  · obtain ⟨n, hn⟩ := Int.eq_ofNat_of_zero_le (a := -b) (by omega)
    have hb' : b = -(n : Int) := by omega
    rw [hb', Int.tmod_neg, ← Int.ofNat_tmod]
    have := Nat.mod_le m n
    omega

theorem wf_tmod {k : IntKind} {a b : Int} (h : (Lit.int k a).wf = true) : (Lit.int k (a.tmod b)).wf = true := by
  simp only [Lit.wf, Bool.and_eq_true, decide_eq_true_eq] at h ⊢
  have h0 : k.min ≤ 0 ∧ 0 ≤ k.max := by cases k <;> simp [IntKind.min, IntKind.max, IntKind.signed, IntKind.bits]
  by_cases ha : 0 ≤ a
  · have h1 := Int.tmod_nonneg b ha
    have h2 := tmod_le b ha
    omega
  · have h1 : (-a).tmod b = -(a.tmod b) := Int.neg_tmod a b
    have h2 := Int.tmod_nonneg b (a := -a) (by omega)
    have h3 := tmod_le (a := -a) b (by omega)
    omega


theorem abin_sound {P : Program} {w : World} {μ : Mu} {op : BinOp} {tx : TypeId} {x y : HV} {u v : Value} {R : HV → Prop} (hx : Rep w μ x u) (hy : Rep w μ y v) (h : abin op x y R) :
    ∃ r hv, (binOp op tx u v).run P w = .ok r w ∧ R hv ∧ Rep w μ hv r := by
  unfold abin at h
  split at h
  · obtain ⟨rfl, h⟩ := h; obtain ⟨rfl, -⟩ := hx; obtain ⟨rfl, -⟩ := hy
    exact ⟨_, _, by simp [binOp, Op.intArith], h, rfl, wf_wrap _ _⟩
  · obtain ⟨rfl, h⟩ := h; obtain ⟨rfl, -⟩ := hx; obtain ⟨rfl, -⟩ := hy
    exact ⟨_, _, by simp [binOp, Op.intArith], h, rfl, wf_wrap _ _⟩
  · obtain ⟨rfl, h⟩ := h; obtain ⟨rfl, -⟩ := hx; obtain ⟨rfl, -⟩ := hy
    exact ⟨_, _, by simp [binOp, Op.intArith], h, rfl, wf_wrap _ _⟩
  · obtain ⟨rfl, h0, h⟩ := h; obtain ⟨rfl, -⟩ := hx; obtain ⟨rfl, -⟩ := hy
    exact ⟨_, _, by simp [binOp, Op.intDiv, h0], h, rfl, wf_wrap _ _⟩
  · obtain ⟨rfl, h0, h⟩ := h; obtain ⟨rfl, hw⟩ := hx; obtain ⟨rfl, -⟩ := hy
    exact ⟨_, _, by simp [binOp, Op.intDiv, h0], h, rfl, wf_tmod hw⟩
  · obtain ⟨rfl, h⟩ := h; obtain ⟨rfl, -⟩ := hx; obtain ⟨rfl, -⟩ := hy
    exact ⟨_, _, by simp only [binOp, Op.intCmp, ne_eq, not_true_eq_false, if_false]; rfl, h, congrArg Value.bool (by rw [Bool.eq_iff_iff]; simp)⟩
  · obtain ⟨rfl, h⟩ := h; obtain ⟨rfl, -⟩ := hx; obtain ⟨rfl, -⟩ := hy
    exact ⟨_, _, by simp only [binOp, Op.intCmp, ne_eq, not_true_eq_false, if_false]; rfl, h, congrArg Value.bool (by rw [Bool.eq_iff_iff]; simp)⟩
  · obtain ⟨rfl, h⟩ := h; obtain ⟨rfl, -⟩ := hx; obtain ⟨rfl, -⟩ := hy
    exact ⟨_, _, by simp [binOp, Op.intCmp], h, rfl⟩
  · obtain ⟨rfl, h⟩ := h; obtain ⟨rfl, -⟩ := hx; obtain ⟨rfl, -⟩ := hy
    exact ⟨_, _, by simp [binOp, Op.intCmp], h, rfl⟩
  · obtain ⟨rfl, h⟩ := h; obtain ⟨rfl, -⟩ := hx; obtain ⟨rfl, -⟩ := hy
    exact ⟨_, _, by simp [binOp, Op.intCmp], h, rfl⟩
  · obtain ⟨rfl, h⟩ := h; obtain ⟨rfl, -⟩ := hx; obtain ⟨rfl, -⟩ := hy
    exact ⟨_, _, by simp [binOp, Op.intCmp], h, rfl⟩
  · rename_i a b
    obtain ⟨hl, h⟩ := h; obtain ⟨rfl, -⟩ := hx; obtain ⟨rfl, -⟩ := hy
    have hs : (⟨a.toArray⟩ : ByteArray).size + (⟨b.toArray⟩ : ByteArray).size ≤ 9223372036854775807 := by
      simp only [maxLen] at hl
      show a.toArray.size + b.toArray.size ≤ _
      simp only [List.size_toArray]; omega
    refine ⟨.string (⟨a.toArray⟩ ++ ⟨b.toArray⟩), _, ?_, h, ?_, by simpa using hl⟩
    · simp only [binOp]; exact run_string_add_sum w _ _ hs
    · congr 1
  · obtain ⟨rfl, -⟩ := hx; obtain ⟨rfl, -⟩ := hy
    exact ⟨_, _, by simp only [binOp, Op.stringOp]; rfl, h, congrArg Value.bool (by rw [Bool.eq_iff_iff]; simp)⟩
  · obtain ⟨rfl, -⟩ := hx; obtain ⟨rfl, -⟩ := hy
    exact ⟨_, _, by simp only [binOp, Op.stringOp]; rfl, h, congrArg Value.bool (by rw [Bool.eq_iff_iff]; simp)⟩
  · obtain ⟨rfl, -⟩ := hx; obtain ⟨rfl, -⟩ := hy
    exact ⟨_, _, by simp only [binOp, Op.stringOp]; rfl, h, congrArg Value.bool (by simp)⟩
  · obtain ⟨rfl, -⟩ := hx; obtain ⟨rfl, -⟩ := hy
    exact ⟨_, _, by simp only [binOp, Op.stringOp]; rfl, h, congrArg Value.bool (by rw [Bool.eq_iff_iff]; simp)⟩
  · obtain ⟨rfl, -⟩ := hx; obtain ⟨rfl, -⟩ := hy
    exact ⟨_, _, by simp only [binOp, Op.stringOp]; rfl, h, congrArg Value.bool (by rw [Bool.eq_iff_iff]; simp)⟩
  · obtain ⟨rfl, -⟩ := hx; obtain ⟨rfl, -⟩ := hy
    exact ⟨_, _, by simp only [binOp, Op.stringOp]; rfl, h, congrArg Value.bool (by simp)⟩
  · exact h.elim

/-- .. and those of booleans -/
def abinT (P : Program) (op : BinOp) (tx : TypeId) (x y : HV) (R : HV → Prop) : Prop :=
  match x, y with
  | .bool a, .bool b => match op, ty P tx with
    | .eql, some ⟨.bool, _, _, _⟩ => R (.bool (a == b))
    | .neq, some ⟨.bool, _, _, _⟩ => R (.bool (!(a == b)))
    | _, _ => False
  | _, _ => abin op x y R

theorem abinT_sound {P : Program} {w : World} {μ : Mu} {op : BinOp} {tx : TypeId} {x y : HV} {u v : Value} {R : HV → Prop} (hx : Rep w μ x u) (hy : Rep w μ y v) (h : abinT P op tx x y R) :
    ∃ r hv, (binOp op tx u v).run P w = .ok r w ∧ R hv ∧ Rep w μ hv r := by
  unfold abinT at h
  split at h
  · rename_i a b
    have hx' : u = .bool a := hx
    have hy' : v = .bool b := hy
    subst hx' hy'
    split at h
    · rename_i hT
      exact ⟨_, _, by simp [binOp, run_equal_bool w tx a b (ty_spec hT).1], h, rfl⟩
    · rename_i hT
      exact ⟨_, _, by simp [binOp, run_equal_bool w tx a b (ty_spec hT).1], h, rfl⟩
    · exact h.elim
  · exact abin_sound hx hy h

def HV.cells? : HV → Option (List HV)
  | .agg cs => some cs
  | h => if h.one then some [h] else none

theorem cells?_rep {w : World} {μ : Mu} {hv : HV} {val : Value} {cs : List HV} (h : hv.cells? = some cs) (hr : Rep w μ hv val) : RepL w μ cs val.cells.toList := by
  have one : hv.one = true → cs = [hv] → RepL w μ cs val.cells.toList := by
    intro h1 e
    subst e
    have ho := hr.oneCell h1
    refine ⟨val, [], ?_, hr, rfl⟩
    cases val <;> simp_all [Value.oneCell', Value.cells]
  cases hv with
  | agg ds =>
    obtain ⟨_, vs, rfl, hl⟩ := hr
    cases h
    simpa [Value.cells] using hl
  | tup ds => simp [HV.cells?, HV.one] at h
  | v x =>
    simp only [HV.cells?] at h
    split at h
    · cases h; exact one (by assumption) rfl
    · cases h
  | _ => simp only [HV.cells?, HV.one, if_true, Option.some.injEq] at h; exact one rfl h.symm

theorem cells?_ones {w : World} {μ : Mu} {hv : HV} {val : Value} {cs : List HV} (h : hv.cells? = some cs) (hr : Rep w μ hv val) : ones cs := by
  cases hv with
  | agg ds => cases h; exact hr.1
  | tup ds => simp [HV.cells?, HV.one] at h
  | v x =>
    simp only [HV.cells?] at h
    split at h
    · cases h; exact ones.single (by assumption)
    · cases h
  | _ => simp only [HV.cells?, HV.one, if_true, Option.some.injEq] at h; exact h ▸ ones.single rfl

def onesB (cs : List HV) : Bool := cs.all HV.one
theorem ones_of_b {cs : List HV} (h : onesB cs = true) : ones cs := fun c hc => List.all_eq_true.1 h c hc

/-- the cells of a type's zero value -/
def zcells : Value → Option (List HV)
  | .agg cs => match cs.toList.mapM constHV with
    | some hs => if onesB hs then some hs else none
    | none => none
  | .tuple _ => none
  | v => match constHV v with
    | some h => if h.one then some [h] else none
    | none => none

theorem mapM_const {w : World} {μ : Mu} : ∀ {vs : List Value} {cs : List HV}, vs.mapM constHV = some cs → RepL w μ cs vs
  | [], cs, h => by simp at h; subst h; rfl
  | v :: vs, cs, h => by
    simp only [List.mapM_cons, Option.pure_def, Option.bind_eq_bind, Option.bind_eq_some_iff] at h
    obtain ⟨c, hc, ds, hd, he⟩ := h
    cases he
    exact ⟨v, vs, rfl, constHV_rep hc, mapM_const hd⟩

theorem zcells_rep {w : World} {μ : Mu} {v : Value} {cs : List HV} (h : zcells v = some cs) : RepL w μ cs v.cells.toList := by
  have go : ∀ {u : Value}, u.cells = #[u] → (match constHV u with
      | some h => if h.one then some [h] else none
      | none => none) = some cs → RepL w μ cs u.cells.toList := by
    intro u hu h
    split at h
    · rename_i c hc
      split at h
      · cases h
        rw [hu]
        exact ⟨u, [], rfl, constHV_rep hc, rfl⟩
      · cases h
    · cases h
  cases v with
  | agg cs' =>
    simp only [zcells] at h
    split at h
    · rename_i hs hm
      split at h
      · cases h; exact mapM_const hm
      · cases h
    · cases h
  | tuple vs => cases h
  | _ => exact go rfl h

def asl (s : AS) (lo : Option Operand) (d : Int) : Option Int :=
  match lo with
  | none => some d
  | some x => match s.ev x with
    | some (.int _ n) => some n
    | _ => none

/-- the element's size of a slice's (or array's) type -/
def elemSize (P : Program) (t : TypeId) : Option Nat :=
  match ty P t with
  | some ⟨.slice e, _, _, _⟩ => (ty P e).map (·.size)
  | some ⟨.array _ e, _, _, _⟩ => (ty P e).map (·.size)
  | _ => none

def fieldOf (P : Program) (S : TypeId) (f : Nat) : Option (Nat × TyI) :=
  match ty P S with
  | some ⟨.struct fs, _, _, _⟩ => match fs[f]? with
    | some fd => match ty P fd.type with
      | some T => if T.size = 0 then none else some (fd.offset, T)
      | none => none
    | none => none
  | _ => none

def minmax (op : Builtin) (a b : Int) : Int := match op with
  | .min => min a b
  | _ => max a b

/-- the object is there still -/
def alive (H : Heap) (id ver : Nat) : Prop := match hget H id with
  | some (v, _) => v = ver
  | none => False

/-- WHAT AN OPERATION THAT ONLY COMPUTES GIVES (R: what is asked of it) -/
def aval (P : Program) (op : Op) (s : AS) (R : HV → Prop) : Prop :=
  match op with
  | .move x | .assign x => match s.ev x with
    | some h => R h
    | none => False
  | .pick c a b => match s.ev c, s.ev a, s.ev b with
    | some (.bool t), some (.bool x), some (.bool y) => R (.bool (bif t then x else y))
    | some (.bool true), some h, _ => R h
    | some (.bool false), _, some h => R h
    | _, _, _ => False
  | .load t a => match ty P t, s.ev a with
    | some T, some (.fptr cs off) => loadK T cs off R
    | some T, some (.ptr id ver off) => match hget s.heap id with
      | some (ver', .arr _ _ cs) => ver = ver' ∧ loadK T cs off R
      | _ => False
    | _, _ => False
  | .nilCheck x => match s.ev x with
    | some (.ptr id ver off) => match hget s.heap id with
      | some (ver', _) => ver = ver' ∧ R (.ptr id ver off)
      | none => False
    | some (.fptr cs off) => R (.fptr cs off)
    | _ => False
  | .binOp op tx x y _ => match s.ev x, s.ev y with
    | some h, some g => abinT P op tx h g R
    | _, _ => False
  | .unOp op _ x => match op, s.ev x with
    | .not, some (.bool b) => R (.bool (!b))
    | .neg, some (.int k n) => R (.int k (k.wrap (0 - n)))
    | _, _ => False
  | .convert src dst x => match ty P src, ty P dst, s.ev x with
    | some _, some ⟨.int k, _, _, _⟩, some (.int _ n) => R (.int k (k.wrap n))
    | some _, some ⟨.string, _, _, _⟩, some (.int _ n) => R (.str (Utf8.encode n).data.toList)
    | some _, some ⟨.string, _, _, _⟩, some (.str l) => R (.str l)
    | _, _, _ => False
  | .makeFunc fn first caps => match first.toList.mapM s.ev, caps.toList.mapM s.ev with
    | some fs, some cs => R (.fn fn fs cs)
    | _, _ => False
  | .fieldAddr S x f => match fieldOf P S f, s.ev x with
    | some (o, _), some (.ptr id ver off) => alive s.heap id ver ∧ R (.ptr id ver (off + o))
    | some (o, _), some (.fptr cs off) => R (.fptr cs (off + o))
    | _, _ => False
  | .field S x f => match fieldOf P S f, s.ev x with
    | some (o, T), some (.agg cs) => loadK T cs o R
    | _, _ => False
  | .indexAddr t x i => match ty P t, elemSize P t, s.ev x, s.ev i with
    | some ⟨.slice _, _, _, _⟩, some k', some (.sl k n cs), some (.int _ j) => k = k' ∧ 0 ≤ j ∧ j < n ∧ R (.fptr cs (j.toNat * k))
    | some ⟨.slice _, _, _, _⟩, some k', some (.ar id ver k off n), some (.int _ j) => k = k' ∧ 0 ≤ j ∧ j < n ∧ alive s.heap id ver ∧ R (.ptr id ver (off + j.toNat * k))
    | some ⟨.array len _, _, _, _⟩, some k', some (.ptr id ver off), some (.int _ j) => 0 ≤ j ∧ j < len ∧ alive s.heap id ver ∧ R (.ptr id ver (off + j.toNat * k'))
    | some ⟨.array len _, _, _, _⟩, some k', some (.fptr cs off), some (.int _ j) => 0 ≤ j ∧ j < len ∧ R (.fptr cs (off + j.toNat * k'))
    | _, _, _, _ => False
  | .index t x i => match ty P t, s.ev x, s.ev i with
    | some ⟨.string, _, _, _⟩, some (.str l), some (.int _ j) => 0 ≤ j ∧ match l[j.toNat]? with
      | some b => R (.int .u8 b.toNat)
      | none => False
    | some ⟨.array len e, _, _, _⟩, some (.agg cs), some (.int _ j) => 0 ≤ j ∧ j < len ∧ match ty P e with
      | some T => loadK T cs (j.toNat * T.size) R
      | none => False
    | _, _, _ => False
  | .extract x i => match s.ev x with
    | some (.tup vs) => match vs[i]? with
      | some h => R h
      | none => False
    | _ => False
  | .slice t x lo hi none => match ty P t, elemSize P t, s.ev x with
    | some ⟨.string, _, _, _⟩, _, some (.str l) => match asl s lo 0, asl s hi l.length with
      | some a, some b => 0 ≤ a ∧ a ≤ b ∧ b ≤ l.length ∧ R (.str ((l.take b.toNat).drop a.toNat))
      | _, _ => False
    | some ⟨.slice _, _, _, _⟩, some k', some (.sl k n cs) => match asl s lo 0, asl s hi n with
      | some a, some b => k = k' ∧ 0 ≤ a ∧ a ≤ b ∧ b ≤ n ∧ R (.sl k (b.toNat - a.toNat) ((cs.take (b.toNat * k)).drop (a.toNat * k)))
      | _, _ => False
    | some ⟨.slice _, _, _, _⟩, some k', some (.ar id ver k off n) => match asl s lo 0, asl s hi n with
      | some a, some b => k = k' ∧ 0 ≤ a ∧ a ≤ b ∧ b ≤ n ∧ (a = 0 ∨ a < n) ∧ alive s.heap id ver ∧ R (.ar id ver k (off + a.toNat * k) (b.toNat - a.toNat))
      | _, _ => False
    | _, _, _ => False
  | .call c => match c.callee, c.argTypes.toList, c.args.toList with
    | .builtin .len, [t], [x] => match ty P t, s.ev x with
      | some ⟨.string, _, _, _⟩, some (.str l) => R (.int .i64 l.length)
      | some ⟨.slice _, _, _, _⟩, some (.sl _ n _) => R (.int .i64 n)
      | some ⟨.slice _, _, _, _⟩, some (.ar id ver _ _ n) => alive s.heap id ver ∧ R (.int .i64 n)
      | some ⟨.slice _, _, _, _⟩, some (.v (.slice none 0 0)) => R (.int .i64 0)
      | some ⟨.map _ _, _, _, _⟩, some (.v (.map none)) => R (.int .i64 0)
      | some ⟨.map _ _, _, _, _⟩, some (.mp id ver) => match hget s.heap id with
        | some (ver', .map es) => ver = ver' ∧ es.length ≤ maxLen ∧ R (.int .i64 es.length)
        | _ => False
      | _, _ => False
    | .builtin b, _, [x, y] => match s.ev x, s.ev y with
      | some (.int k a), some (.int k' c) => (b = .min ∨ b = .max) ∧ k = k' ∧ R (.int k (minmax b a c))
      | _, _ => False
    | .builtin b, _, [x, y, z] => match s.ev x, s.ev y, s.ev z with
      | some (.int k a), some (.int k' c), some (.int k'' d) => (b = .min ∨ b = .max) ∧ k = k' ∧ k = k'' ∧ R (.int k (minmax b (minmax b a c) d))
      | _, _, _ => False
    | _, _, _ => False
  | _ => False

section
variable {P : Program} {ro : Option Nat} {N B : Nat} {s : AS} {μ : Mu} {a : Act} {w : World}

theorem mapM_ev (hs : SRel ro N B μ s a w) : ∀ {xs : List Operand} {hs' : List HV}, xs.mapM s.ev = some hs' → RepL w μ hs' (xs.map a.eval)
  | [], l, h => by simp at h; subst h; rfl
  | x :: xs, l, h => by
    simp only [List.mapM_cons, Option.pure_def, Option.bind_eq_bind, Option.bind_eq_some_iff] at h
    obtain ⟨c, hc, ds, hd, he⟩ := h
    cases he
    exact ⟨a.eval x, xs.map a.eval, rfl, hs.ev hc, mapM_ev hs hd⟩

theorem OR.seg {e : TypeId} {k : Nat} {cs : List HV} {b : Nat} (h : OR w μ (.arr k e cs) (some b)) : ones cs ∧ ∃ vs, Seg w b 0 vs ∧ RepL w μ cs vs := by
  obtain ⟨h0, cur, vs, rest, ⟨lo, hi, h1, _⟩, h2, h3⟩ := h
  exact ⟨h0, vs, ⟨cur, e, (lo, hi), [], rest, h1, by simpa using h2, rfl⟩, h3⟩

/-- a live pointer into an owned array -/
theorem SRel.live {id ver off : Nat} {v : Value} (hs : SRel ro N B μ s a w) (hr : Rep w μ (.ptr id ver off) v) {o : AObj} (hg : hget s.heap id = some (ver, o)) :
    ∃ b, μ.loc id = some (ver, some b) ∧ v = .pointer (some ⟨b, off, none⟩) ∧ OR w μ o (some b) := by
  obtain ⟨l, hl, hor⟩ := hs.sr.has id ver _ hg
  rcases hr with ⟨b, hb, rfl⟩ | ⟨hd, _⟩
  · rw [hl] at hb
    cases hb
    exact ⟨b, hl, rfl, hor⟩
  · exact absurd hl (hd.2 l)

theorem SRel.notDead {id ver : Nat} (hs : SRel ro N B μ s a w) (h : alive s.heap id ver) : ¬ μ.dead id ver := by
  unfold alive at h
  split at h
  · rename_i v o hg
    subst h
    obtain ⟨l, hl, _⟩ := hs.sr.has id _ _ hg
    exact fun hd => hd.2 l hl
  · exact h.elim

theorem elemSize_slice {t e : TypeId} {k : Nat} {T : TyI} (hT : ty P t = some T) (hd : T.desc = .slice e) (h : elemSize P t = some k) (w : World) : (sizeOf e).run P w = .ok k w := by
  unfold elemSize at h
  rw [hT] at h
  obtain ⟨d, sz, by', z⟩ := T
  simp only at hd
  subst hd
  simp only [Option.map_eq_some_iff] at h
  obtain ⟨T', hT', rfl⟩ := h
  exact ty_sizeOf hT' w

theorem elemSize_array {t e : TypeId} {len k : Nat} {T : TyI} (hT : ty P t = some T) (hd : T.desc = .array len e) (h : elemSize P t = some k) (w : World) : (sizeOf e).run P w = .ok k w := by
  unfold elemSize at h
  rw [hT] at h
  obtain ⟨d, sz, by', z⟩ := T
  simp only at hd
  subst hd
  simp only [Option.map_eq_some_iff] at h
  obtain ⟨T', hT', rfl⟩ := h
  exact ty_sizeOf hT' w

theorem fieldOf_spec {S : TypeId} {f o : Nat} {T : TyI} (h : fieldOf P S f = some (o, T)) :
    ∃ fs fd, (∀ w, (underlying S).run P w = .ok (.struct fs) w) ∧ fs[f]? = some fd ∧ fd.offset = o ∧ ty P fd.type = some T ∧ T.size ≠ 0 := by
  unfold fieldOf at h
  split at h
  · rename_i fs sz by' z hT
    split at h
    · rename_i fd hfd
      split at h
      · rename_i T' hT'
        split at h
        · cases h
        · rename_i h0
          cases h
          exact ⟨fs, fd, fun w => ty_under hT w, hfd, rfl, hT', h0⟩
      · cases h
    · cases h
  · cases h

theorem loadK_part {cs : List HV} {vs : List Value} (h1 : ones cs) (hc : RepL w μ cs vs) {t : TypeId} {T : TyI} (hT : ty P t = some T) {off : Nat} {R : HV → Prop} (hk : loadK T cs off R) :
    ∃ v hv, (part t vs.toArray off).run P w = .ok v w ∧ R hv ∧ Rep w μ hv v := by
  unfold loadK at hk
  by_cases ha : aggD T.desc
  · rw [if_pos ha] at hk
    refine ⟨.agg ((vs.drop off).take T.size).toArray, _, ?_, hk.2, (h1.drop off).take T.size, _, rfl, (hc.drop off).take T.size⟩
    simp [part, ty_isAgg hT, ha, ty_sizeOf hT, List.take_drop]
  · rw [if_neg ha] at hk
    split at hk
    · rename_i c hcs
      obtain ⟨x, hx, hr⟩ := hc.get hcs
      refine ⟨x, c, ?_, hk, hr⟩
      simp [part, ty_isAgg hT, ha, hx]
    · exact hk.elim

theorem asl_spec {lo : Option Operand} {d x : Int} (hs : SRel ro N B μ s a w) (h : asl s lo d = some x) :
    (lo = none ∧ x = d) ∨ ∃ o k, lo = some o ∧ a.eval o = .int k x := by
  unfold asl at h
  split at h
  · cases h; exact .inl ⟨rfl, rfl⟩
  · rename_i o
    split at h
    · rename_i k n hn
      cases h
      exact .inr ⟨o, k, rfl, (hs.ev hn).1⟩
    · cases h

theorem run_bounds (hs : SRel ro N B μ s a w) {lo hi : Option Operand} {p q : Int} (bs : Bool) (len cap : Nat) (hp : asl s lo 0 = some p) (hq : asl s hi len = some q) (h0 : 0 ≤ p) (h1 : p ≤ q) (h2 : q ≤ cap) :
    (Instr.sliceBounds bs len cap (lo.map a.eval) (hi.map a.eval) none).run P w = .ok (p.toNat, q.toNat, cap) w := by
  have h3 : 0 ≤ q := by omega
  have h4 : p ≤ (q.toNat : Int) := by omega
  rcases asl_spec hs hp with ⟨rfl, rfl⟩ | ⟨o1, k1, rfl, e1⟩
  · rcases asl_spec hs hq with ⟨rfl, rfl⟩ | ⟨o2, k2, rfl, e2⟩
    · simp [Instr.sliceBounds]
    · simp [Instr.sliceBounds, Instr.sliceBound, asIntOf, e2, h2, h3]
  · rcases asl_spec hs hq with ⟨rfl, rfl⟩ | ⟨o2, k2, rfl, e2⟩
    · simp [Instr.sliceBounds, Instr.sliceBound, asIntOf, e1, h0, h1]
    · have h4' : p ≤ max q 0 := by omega
      simp [Instr.sliceBounds, Instr.sliceBound, asIntOf, e1, e2, h0, h2, h3, h4']

theorem abin_guard {op : BinOp} {tx : TypeId} {x y : HV} {u v : Value} {R : HV → Prop} (hx : Rep w μ x u) (hy : Rep w μ y v) (h : abin op x y R) (X Y : Operand) :
    (eqGuard op tx X Y u v).run P w = .ok () w := by
  have key : (∃ k n, u = .int k n) ∨ ∃ z, u = .string z := by
    unfold abin at h
    split at h
    all_goals first
      | exact h.elim
      | exact .inl ⟨_, _, hx.1⟩
      | exact .inr ⟨_, hx.1⟩
  unfold eqGuard
  rcases key with ⟨k, n, rfl⟩ | ⟨z, rfl⟩
  · split <;> simp
  · split <;> simp

theorem abinT_guard {op : BinOp} {tx : TypeId} {x y : HV} {u v : Value} {R : HV → Prop} (hx : Rep w μ x u) (hy : Rep w μ y v) (h : abinT P op tx x y R) (X Y : Operand) :
    (eqGuard op tx X Y u v).run P w = .ok () w := by
  unfold abinT at h
  split at h
  · have hx' : u = .bool _ := hx
    subst hx'
    unfold eqGuard
    split <;> simp
  · exact abin_guard hx hy h X Y

theorem wf_len {n : Nat} (h : n ≤ maxLen) : (Lit.int .i64 (n : Int)).wf = true := by
  simp only [maxLen] at h
  exact WalkArith.wf_i64 (by omega)

theorem wf_minmax {b : Builtin} {k : IntKind} {p q : Int} (h1 : (Lit.int k p).wf = true) (h2 : (Lit.int k q).wf = true) : (Lit.int k (minmax b p q)).wf = true := by
  unfold minmax
  split
  · rw [Int.min_def]; split <;> assumption
  · rw [Int.max_def]; split <;> assumption

theorem aval_sound (hs : SRel ro N B μ s a w) (o : Oper) {R : HV → Prop} (h : aval P o.op s R) :
    ∃ v hv, (execOp a.eval o).run P w = .ok (.value v) w ∧ R hv ∧ Rep w μ hv v := by
  unfold aval at h
  split at h
  · -- move
    rename_i x hop
    split at h
    · rename_i hv hx
      exact ⟨a.eval x, hv, by simp [execOp, hop], h, hs.ev hx⟩
    · exact h.elim
  · rename_i x hop
    split at h
    · rename_i hv hx
      exact ⟨a.eval x, hv, by simp [execOp, hop], h, hs.ev hx⟩
    · exact h.elim
  · -- pick
    rename_i c x y hop
    split at h
    · rename_i t p q hc hx hy
      have h1 := hs.ev hc; have h2 := hs.ev hx; have h3 := hs.ev hy
      simp only [Rep] at h1 h2 h3
      refine ⟨.bool (bif t then p else q), _, ?_, h, rfl⟩
      cases t <;> simp [execOp, hop, h1, h2, h3, asBool]
    · rename_i hv hc hx _
      have h1 := hs.ev hc
      simp only [Rep] at h1
      exact ⟨a.eval x, hv, by simp [execOp, hop, h1, asBool], h, hs.ev hx⟩
    · rename_i hv hc hy _
      have h1 := hs.ev hc
      simp only [Rep] at h1
      exact ⟨a.eval y, hv, by simp [execOp, hop, h1, asBool], h, hs.ev hy⟩
    · exact h.elim
  · -- load
    rename_i t x hop
    split at h
    · rename_i T cs off hT hx
      obtain ⟨h0, b, base, vs, he, _, hsg, hl⟩ := hs.ev hx
      obtain ⟨v, hv, h1, h2, h3⟩ := run_loadVar_seg hT hsg h0 hl off h
      exact ⟨v, hv, by simp [execOp, hop, he, Instr.loadAt, Instr.sureAddr, h1], h2, h3⟩
    · rename_i T id ver off hT hx
      split at h
      · rename_i ver' k e cs hg
        obtain ⟨rfl, h⟩ := h
        obtain ⟨b, hl, he, hor⟩ := hs.live (hs.ev hx) hg
        obtain ⟨h0, vs, hsg, hcl⟩ := hor.seg
        obtain ⟨v, hv, h1, h2, h3⟩ := run_loadVar_seg hT hsg h0 hcl off h
        rw [Nat.zero_add] at h1
        exact ⟨v, hv, by simp [execOp, hop, he, Instr.loadAt, Instr.sureAddr, h1], h2, h3⟩
      · exact h.elim
    · exact h.elim
  · -- nilCheck
    rename_i x hop
    split at h
    · rename_i id ver off hx
      have hr := hs.ev hx
      split at h
      · rename_i ver' o' hg
        obtain ⟨rfl, h⟩ := h
        obtain ⟨b, hl, he, _⟩ := hs.live hr hg
        exact ⟨a.eval x, _, by simp [execOp, hop, he], h, hr⟩
      · exact h.elim
    · rename_i cs off hx
      have hr := hs.ev hx
      obtain ⟨_, b, base, vs, he, _⟩ := hr
      exact ⟨a.eval x, _, by simp [execOp, hop, he], h, hs.ev hx⟩
    · exact h.elim
  · -- binOp
    rename_i op tx x y ty' hop
    split at h
    · rename_i p q hx hy
      obtain ⟨r, hv, h1, h2, h3⟩ := abinT_sound (P := P) (tx := tx) (hs.ev hx) (hs.ev hy) h
      exact ⟨r, hv, by simp [execOp, hop, abinT_guard (hs.ev hx) (hs.ev hy) h, h1], h2, h3⟩
    · exact h.elim
  · -- unOp
    rename_i op tx x hop
    split at h
    · rename_i b hx
      have h1 := hs.ev hx
      simp only [Rep] at h1
      exact ⟨.bool (!b), _, by simp [execOp, hop, h1, Op.unary], h, rfl⟩
    · rename_i k n hx
      obtain ⟨h1, _⟩ := hs.ev hx
      exact ⟨.int k (k.wrap (0 - n)), _, by simp [execOp, hop, h1, Op.unary, Op.intArith], h, rfl, wf_wrap _ _⟩
    · exact h.elim
  · -- convert
    rename_i src dst x hop
    split at h
    · rename_i T k sz by' z k' n hT hU hx
      obtain ⟨h1, _⟩ := hs.ev hx
      have hu := ty_under hU
      exact ⟨.int k (k.wrap n), _, by simp [execOp, hop, h1, convert, ty_under hT, hu, Conv.intToInt], h, rfl, wf_wrap _ _⟩
    · rename_i T sz by' z k' n hT hU hx
      obtain ⟨h1, _⟩ := hs.ev hx
      have hu := ty_under hU
      refine ⟨.string (Utf8.encode n), _, by simp [execOp, hop, h1, convert, ty_under hT, hu, Conv.intToString], h, by simp, ?_⟩
      have := encode_size_le n
      simp only [ByteArray.size, ← Array.length_toList] at this
      simp only [maxLen]; omega
    · rename_i T sz by' z l hT hU hx
      have hr := hs.ev hx
      obtain ⟨h1, _⟩ := hr
      have hu := ty_under hU
      exact ⟨a.eval x, _, by simp [execOp, hop, h1, convert, ty_under hT, hu], h, hs.ev hx⟩
    · exact h.elim
  · -- makeFunc
    rename_i fn first caps hop
    split at h
    · rename_i fs cs hf hc
      refine ⟨.func fn (first.map a.eval) (caps.map a.eval), _, by simp [execOp, hop, Instr.makeFunc], h, ?_⟩
      refine ⟨first.toList.map a.eval, caps.toList.map a.eval, ?_, mapM_ev hs hf, mapM_ev hs hc⟩
      congr 1
      · apply Array.toList_inj.1; simp
      · apply Array.toList_inj.1; simp
    · exact h.elim
  · -- fieldAddr
    rename_i S x f hop
    split at h
    · rename_i o' T id ver off hf hx
      obtain ⟨fs, fd, hu, hfd, rfl, hT, h0⟩ := fieldOf_spec hf
      obtain ⟨hlive, h⟩ := h
      rcases hs.ev hx with ⟨b, hl, he⟩ | ⟨hd, ad, he⟩
      · refine ⟨.pointer (some ⟨b, off + fd.offset, none⟩), _, ?_, h, .inl ⟨b, hl, rfl⟩⟩
        simp [execOp, hop, he, Instr.fieldAt, Instr.sureAddr, hu, hfd, fieldPlace, ty_sizeOf hT, h0, Addr.add_lit]
      · exact absurd hd (hs.notDead hlive)
    · rename_i o' T cs off hf hx
      obtain ⟨fs, fd, hu, hfd, rfl, hT, h0⟩ := fieldOf_spec hf
      obtain ⟨h9, b, base, vs, he, ho, hsg, hl⟩ := hs.ev hx
      refine ⟨.pointer (some ⟨b, base + (off + fd.offset), none⟩), _, ?_, h, h9, b, base, vs, rfl, ho, hsg, hl⟩
      simp [execOp, hop, he, Instr.fieldAt, Instr.sureAddr, hu, hfd, fieldPlace, ty_sizeOf hT, h0, Addr.add_lit, Nat.add_assoc]
    · exact h.elim
  · -- field
    rename_i S x f hop
    split at h
    · rename_i o' T cs hf hx
      obtain ⟨fs, fd, hu, hfd, rfl, hT, h0⟩ := fieldOf_spec hf
      obtain ⟨h9, vs, he, hl⟩ := hs.ev hx
      obtain ⟨v, hv, h1, h2, h3⟩ := loadK_part h9 hl hT h
      exact ⟨v, hv, by simp [execOp, hop, he, Instr.field, hu, hfd, asAgg, h1], h2, h3⟩
    · exact h.elim
  · -- indexAddr
    rename_i t x i hop
    split at h
    · rename_i e sz by' z k' k n cs ki j hT hk hx hi
      obtain ⟨rfl, h0, h1, h⟩ := h
      obtain ⟨hi', _⟩ := hs.ev hi
      obtain ⟨h9, hcl, _, ⟨hn0, _⟩ | ⟨b, off, cap, vs, he, hcap, ho, hsg, hl⟩⟩ := hs.ev hx
      · omega
      · have hu := ty_under hT
        have hz := elemSize_slice hT rfl hk w
        refine ⟨.pointer (some ⟨b, off + j.toNat * k, none⟩), _, ?_, h, h9, b, off, vs, rfl, ho, hsg, hl⟩
        simp [execOp, hop, he, hi', Instr.indexAt, asIntOf, hu, h0, h1, hz, Addr.add_lit]
    · rename_i e sz by' z k' id ver k off n ki j hT hk hx hi
      obtain ⟨rfl, h0, h1, hlive, h⟩ := h
      obtain ⟨hi', _⟩ := hs.ev hi
      have hu := ty_under hT
      have hz := elemSize_slice hT rfl hk w
      rcases hs.ev hx with ⟨l, hl, ⟨_, _, hn, _⟩ | ⟨b, cap, cur, e', rfl, he, hnc, hcm, hrow, hsz⟩⟩ | ⟨hd, ad, m, c, he⟩
      · omega
      · refine ⟨.pointer (some ⟨b, off + j.toNat * k, none⟩), _, ?_, h, .inl ⟨b, hl, rfl⟩⟩
        simp [execOp, hop, he, hi', Instr.indexAt, asIntOf, hu, h0, h1, hz, Addr.add_lit]
      · exact absurd hd (hs.notDead hlive)
    · rename_i len e sz by' z k' id ver off ki j hT hk hx hi
      obtain ⟨h0, h1, hlive, h⟩ := h
      obtain ⟨hi', _⟩ := hs.ev hi
      have hu := ty_under hT
      have hz := elemSize_array hT rfl hk w
      rcases hs.ev hx with ⟨b, hl, he⟩ | ⟨hd, ad, he⟩
      · refine ⟨.pointer (some ⟨b, off + j.toNat * k', none⟩), _, ?_, h, .inl ⟨b, hl, rfl⟩⟩
        simp [execOp, hop, he, hi', Instr.indexAt, Instr.sureAddr, asIntOf, hu, h0, h1, hz, Addr.add_lit]
      · exact absurd hd (hs.notDead hlive)
    · rename_i len e sz by' z k' cs off ki j hT hk hx hi
      obtain ⟨h0, h1, h⟩ := h
      obtain ⟨hi', _⟩ := hs.ev hi
      have hu := ty_under hT
      have hz := elemSize_array hT rfl hk w
      obtain ⟨h9, b, base, vs, he, ho, hsg, hl⟩ := hs.ev hx
      refine ⟨.pointer (some ⟨b, base + (off + j.toNat * k'), none⟩), _, ?_, h, h9, b, base, vs, rfl, ho, hsg, hl⟩
      simp [execOp, hop, he, hi', Instr.indexAt, Instr.sureAddr, asIntOf, hu, h0, h1, hz, Addr.add_lit, Nat.add_assoc]
    · exact h.elim
  · -- index
    rename_i t x i hop
    split at h
    · rename_i sz by' z l ki j hT hx hi
      obtain ⟨h0, h⟩ := h
      obtain ⟨hi', _⟩ := hs.ev hi
      obtain ⟨he, _⟩ := hs.ev hx
      have hu := ty_under hT
      split at h
      · rename_i b hb
        refine ⟨.int .u8 b.toNat, _, ?_, h, rfl, ?_⟩
        · have hb' : (⟨l.toArray⟩ : ByteArray)[j.toNat]? = some b := by
            obtain ⟨hlt, hb1⟩ := List.getElem?_eq_some_iff.1 hb
            have hsz : j.toNat < (⟨l.toArray⟩ : ByteArray).size := by show _ < l.toArray.size; simpa using hlt
            rw [getElem?_pos (⟨l.toArray⟩ : ByteArray) j.toNat hsz, ← hb1]
            rfl
          simp [execOp, hop, he, hi', Instr.index, asIntOf, hu, h0, hb']
        · have := b.toNat_lt
          simp [Lit.wf, IntKind.min, IntKind.max, IntKind.signed, IntKind.bits]
          omega
      · exact h.elim
    · rename_i len e sz by' z cs ki j hT hx hi
      obtain ⟨h0, h1, h⟩ := h
      obtain ⟨hi', _⟩ := hs.ev hi
      obtain ⟨h9, vs, he, hl⟩ := hs.ev hx
      have hu := ty_under hT
      split at h
      · rename_i T' hT'
        obtain ⟨v, hv, h2, h3, h4⟩ := loadK_part h9 hl hT' h
        exact ⟨v, hv, by simp [execOp, hop, he, hi', Instr.index, asIntOf, hu, h0, h1, ty_sizeOf hT', h2], h3, h4⟩
      · exact h.elim
    · exact h.elim
  · -- extract
    rename_i x i hop
    split at h
    · rename_i vs hx
      obtain ⟨us, he, hl⟩ := hs.ev hx
      split at h
      · rename_i hv hi
        obtain ⟨u, hu, hr⟩ := hl.get hi
        exact ⟨u, hv, by simp [execOp, hop, he, Instr.extract, hu], h, hr⟩
      · exact h.elim
    · exact h.elim
  · -- slice
    rename_i t x lo hi hop
    split at h
    · rename_i sz by' z xo l hT hx
      split at h
      · rename_i p q hp hq
        obtain ⟨h0, h1, h2, h⟩ := h
        obtain ⟨he, hlen⟩ := hs.ev hx
        have hu := ty_under hT
        have hsz : (⟨l.toArray⟩ : ByteArray).size = l.length := by show l.toArray.size = _; simp
        have hb := run_bounds (P := P) hs false l.length l.length hp hq h0 h1 h2
        refine ⟨.string ((⟨l.toArray⟩ : ByteArray).extract p.toNat q.toNat), _, ?_, h, ?_, by simp; omega⟩
        · simp [execOp, hop, Instr.sliceAt, Instr.slice, he, hu, hsz, hb]
        · congr 1
          apply WideShapes.bytes_inj
          simp only [ByteArray.data_extract, List.extract_toArray, List.toList_toArray]
          rw [List.extract_eq_take_drop, List.drop_take]
      · exact h.elim
    · rename_i e sz by' z k' k n cs hT hk hx
      split at h
      · rename_i p q hp hq
        obtain ⟨rfl, h0, h1, h2, h⟩ := h
        have hu := ty_under hT
        have hz := elemSize_slice hT rfl hk w
        obtain ⟨h9, hcl, hm, ⟨hn0, he⟩ | ⟨b, off, cap, vs, he, hcap, ho, hsg, hl⟩⟩ := hs.ev hx
        · subst hn0
          have hb := run_bounds (P := P) hs true 0 0 hp hq h0 h1 h2
          have hp0 : p.toNat = 0 := by omega
          have hq0 : q.toNat = 0 := by omega
          refine ⟨.slice none 0 0, _, ?_, h, (h9.take _).drop _, ?_, ?_, ?_⟩
          · simp [execOp, hop, Instr.sliceAt, Instr.slice, he, hu, hb, hz, hp0, hq0]
          · simp [hp0, hq0]
          · omega
          · left; exact ⟨by omega, rfl⟩
        · have hb := run_bounds (P := P) hs true n cap hp hq h0 h1 (by omega)
          have hpn : p.toNat ≤ q.toNat := by omega
          have hqn : q.toNat ≤ n := by omega
          have hmul : p.toNat * k ≤ q.toNat * k := Nat.mul_le_mul_right _ hpn
          have hmul2 : q.toNat * k ≤ n * k := Nat.mul_le_mul_right _ hqn
          have hvl := hl.length
          have hlen : ((cs.take (q.toNat * k)).drop (p.toNat * k)).length = (q.toNat - p.toNat) * k := by
            rw [List.length_drop, List.length_take, Nat.sub_mul]; omega
          by_cases hpc : cap = p.toNat
          · have hb := hpc ▸ hb
            refine ⟨.slice (some ⟨b, off, none⟩) (q.toNat - p.toNat) (cap - p.toNat), _, ?_, h, (h9.take _).drop _, hlen, by omega, .inr ⟨b, off, _, [], rfl, by omega, ho, ?_, ?_⟩⟩
            · simp [execOp, hop, Instr.sliceAt, Instr.slice, he, hu, hb, hz, hpc]
            · have := hsg.take 0; simpa using this
            · have h8 : q.toNat - p.toNat = 0 := by omega
              rw [h8, Nat.zero_mul] at hlen
              rw [List.eq_nil_of_length_eq_zero hlen]; rfl
          · refine ⟨.slice (some ⟨b, off + p.toNat * k, none⟩) (q.toNat - p.toNat) (cap - p.toNat), _, ?_, h, (h9.take _).drop _, hlen, by omega, .inr ⟨b, off + p.toNat * k, _, (vs.take (q.toNat * k)).drop (p.toNat * k), rfl, by omega, ho, ?_, ?_⟩⟩
            · simp [execOp, hop, Instr.sliceAt, Instr.slice, he, hu, hb, hz, hpc, Addr.add_lit]
            · exact (hsg.take (q.toNat * k)).drop (p.toNat * k) (by rw [List.length_take]; omega)
            · exact (hl.take _).drop _
      · exact h.elim
    · rename_i e sz by' z k' id ver k off n hT hk hx
      split at h
      · rename_i p q hp hq
        obtain ⟨rfl, h0, h1, h2, h3, hlive, h⟩ := h
        have hu := ty_under hT
        have hz := elemSize_slice hT rfl hk w
        rcases hs.ev hx with ⟨l, hl, ⟨rfl, he, hn, hoff⟩ | ⟨b, cap, cur, e', rfl, he, hnc, hcm, hrow, hsz⟩⟩ | ⟨hd, _⟩
        · subst hn hoff
          have hb := run_bounds (P := P) hs true 0 0 hp hq h0 h1 h2
          have hp0 : p.toNat = 0 := by omega
          have hq0 : q.toNat = 0 := by omega
          refine ⟨.slice none 0 0, _, ?_, h, .inl ⟨none, hl, .inl ⟨rfl, rfl, by omega, by simp [hp0]⟩⟩⟩
          simp [execOp, hop, Instr.sliceAt, Instr.slice, he, hu, hb, hz, hp0, hq0]
        · have hb := run_bounds (P := P) hs true n cap hp hq h0 h1 (by omega)
          have hpn : p.toNat ≤ q.toNat := by omega
          have hqn : q.toNat ≤ n := by omega
          have hpcap : p.toNat ≤ cap := by omega
          by_cases hpc : cap = p.toNat
          · have hp0 : p.toNat = 0 := by omega
            have hc0 : cap = 0 := by omega
            subst hc0
            refine ⟨.slice (some ⟨b, off, none⟩) (q.toNat - p.toNat) (0 - p.toNat), _, ?_, h, .inl ⟨some b, hl, .inr ⟨b, 0 - p.toNat, cur, e', rfl, by simp [hp0], by omega, by omega, hrow, by simp [hp0]; omega⟩⟩⟩
            simp [execOp, hop, Instr.sliceAt, Instr.slice, he, hu, hb, hz, hp0]
          · refine ⟨.slice (some ⟨b, off + p.toNat * k, none⟩) (q.toNat - p.toNat) (cap - p.toNat), _, ?_, h, .inl ⟨some b, hl, .inr ⟨b, cap - p.toNat, cur, e', rfl, rfl, by omega, by omega, hrow, ?_⟩⟩⟩
            · simp [execOp, hop, Instr.sliceAt, Instr.slice, he, hu, hb, hz, hpc, Addr.add_lit]
            · rw [Nat.sub_mul]
              have : p.toNat * k ≤ cap * k := Nat.mul_le_mul_right _ hpcap
              omega
        · exact absurd hd (hs.notDead hlive)
      · exact h.elim
    · exact h.elim
  · -- the builtins
    rename_i c hop
    split at h
    · rename_i t x hc ht hx0
      have hargs : c.args = #[x] := Array.toList_inj.1 (by simpa using hx0)
      have hty : c.argTypes = #[t] := Array.toList_inj.1 (by simpa using ht)
      have hrun : ∀ v, (Builtin.len_ #[t] o.type #[a.eval x]).run P w = .ok v w → (execOp a.eval o).run P w = .ok (.value v) w := fun v hv => by
        simp [execOp, hop, resolve, hc, hargs, hty, invoke, builtin, hv]
      split at h
      · rename_i sz by' z l hT hx
        obtain ⟨he, hl⟩ := hs.ev hx
        have hu := ty_under hT
        have hsz : (⟨l.toArray⟩ : ByteArray).size = l.length := by show l.toArray.size = _; simp
        exact ⟨_, _, hrun _ (by simp [Builtin.len_, hu, he, hsz, goInt]), h, rfl, wf_len hl⟩
      · rename_i e sz by' z k n cs hT hx
        have hu := ty_under hT
        obtain ⟨_, _, hm, ⟨hn, he⟩ | ⟨b, off, cap, vs, he, _⟩⟩ := hs.ev hx
        · subst hn
          exact ⟨_, _, hrun _ (by simp [Builtin.len_, hu, he, goInt]), h, rfl, wf_len hm⟩
        · exact ⟨_, _, hrun _ (by simp [Builtin.len_, hu, he, goInt]), h, rfl, wf_len hm⟩
      · rename_i e sz by' z id ver k off n hT hx
        have hu := ty_under hT
        obtain ⟨hlive, h⟩ := h
        rcases hs.ev hx with ⟨l, hl, ⟨_, he, hn, _⟩ | ⟨b, cap, cur, e', rfl, he, hnc, hcm, _⟩⟩ | ⟨hd, _⟩
        · subst hn
          exact ⟨_, _, hrun _ (by simp [Builtin.len_, hu, he, goInt]), h, rfl, by simp [Lit.wf, IntKind.min, IntKind.max, IntKind.signed, IntKind.bits]⟩
        · exact ⟨_, _, hrun _ (by simp [Builtin.len_, hu, he, goInt]), h, rfl, wf_len (Nat.le_trans hnc hcm)⟩
        · exact absurd hd (hs.notDead hlive)
      · rename_i e sz by' z hT hx
        have hu := ty_under hT
        have he : a.eval x = .slice none 0 0 := hs.ev hx
        exact ⟨_, _, hrun _ (by simp [Builtin.len_, hu, he, goInt]), h, rfl, by decide⟩
      · rename_i kt e sz by' z hT hx
        have hu := ty_under hT
        have he : a.eval x = .map none := hs.ev hx
        exact ⟨_, _, hrun _ (by simp [Builtin.len_, hu, he, goInt]), h, rfl, by decide⟩
      · rename_i kt e sz by' z id ver hT hx
        have hu := ty_under hT
        split at h
        · rename_i ver' es hg
          obtain ⟨rfl, hle, h⟩ := h
          obtain ⟨l, hl, hor⟩ := hs.sr.has id _ _ hg
          rcases hs.ev hx with ⟨b, hb, he⟩ | ⟨hd, _⟩
          · rw [hl] at hb
            cases hb
            obtain ⟨ents, clock, h1, h2, _⟩ := hor
            have hlen : ents.size = es.length := by
              have := congrArg List.length h2
              simpa using this
            refine ⟨_, _, hrun _ ?_, h, rfl, wf_len hle⟩
            simp [Builtin.len_, hu, he, getObj, Sem.run, h1, hlen, goInt]
          · exact absurd hl (hd.2 l)
        · exact h.elim
      · exact h.elim
    · rename_i b x y hc hx0
      have hargs : c.args = #[x, y] := Array.toList_inj.1 (by simpa using hx0)
      split at h
      · rename_i k p k' q hx hy
        obtain ⟨hb, rfl, h⟩ := h
        obtain ⟨h1, hw1⟩ := hs.ev hx; obtain ⟨h2, hw2⟩ := hs.ev hy
        refine ⟨.int k (minmax b p q), _, ?_, h, rfl, wf_minmax hw1 hw2⟩
        rcases hb with rfl | rfl
        · simp [execOp, hop, resolve, hc, hargs, invoke, builtin, h1, h2, Builtin.min_, Builtin.min2, minmax, Int.min_def]
          omega
        · simp [execOp, hop, resolve, hc, hargs, invoke, builtin, h1, h2, Builtin.max_, Builtin.max2, minmax, Int.max_def]
          omega
      · exact h.elim
    · rename_i b x y z hc hx0
      have hargs : c.args = #[x, y, z] := Array.toList_inj.1 (by simpa using hx0)
      split at h
      · rename_i k p k' q k'' r hx hy hz
        obtain ⟨hb, rfl, rfl, h⟩ := h
        obtain ⟨h1, hw1⟩ := hs.ev hx; obtain ⟨h2, hw2⟩ := hs.ev hy; obtain ⟨h3, hw3⟩ := hs.ev hz
        refine ⟨.int k (minmax b (minmax b p q) r), _, ?_, h, rfl, wf_minmax (wf_minmax hw1 hw2) hw3⟩
        rcases hb with rfl | rfl
        · simp [execOp, hop, resolve, hc, hargs, invoke, builtin, h1, h2, h3, Builtin.min_, Builtin.min2, minmax, Int.min_def]
          omega
        · simp [execOp, hop, resolve, hc, hargs, invoke, builtin, h1, h2, h3, Builtin.max_, Builtin.max2, minmax, Int.max_def]
          omega
      · exact h.elim
    · exact h.elim
  · exact h.elim
end
end Go.AW
