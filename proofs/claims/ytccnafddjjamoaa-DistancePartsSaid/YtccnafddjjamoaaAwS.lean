/- The evaluation of closed code: what an operation that only computes gives (sval), and that it is what is asked (aval). -/
import Derived.Test.YtccnafddjjamoaaAwR
namespace Go.AW
open Go

def TabOk (P : Program) (T : TypeId → Option TyI) : Prop := ∀ t x, T t = some x → ty P t = some x

def sload (T : TyI) (cs : List HV) (off : Nat) : Option HV :=
  bif aggD T.desc then (bif Nat.ble (off + T.size) cs.length then some (.agg ((cs.drop off).take T.size)) else none) else cs[off]?

theorem sload_sound {T : TyI} {cs : List HV} {off : Nat} {h : HV} (hs : sload T cs off = some h) {ρ : Nat → Nat} {R : HV → Prop} (hr : R (h.ren ρ)) : loadK T (renL ρ cs) off R := by
  unfold sload at hs
  unfold loadK
  cases ha : aggD T.desc with
  | true =>
    rw [ha] at hs
    simp only [cond_true, if_true] at hs ⊢
    by_cases hb : Nat.ble (off + T.size) cs.length = true
    · rw [hb] at hs
      cases hs
      refine ⟨by rw [renL_len]; exact Nat.le_of_ble_eq_true hb, ?_⟩
      simpa only [HV.ren, renL_take, renL_drop] using hr
    · simp [Bool.not_eq_true _ ▸ hb] at hs
  | false =>
    rw [ha] at hs
    simp only [cond_false, Bool.false_eq_true, if_false] at hs ⊢
    rw [renL_get, hs]
    exact hr

def sbin (op : BinOp) (x y : HV) : Option HV :=
  match op, x, y with
  | .add, .int k a, .int k' b => if k = k' then some (.int k (k.wrap (a + b))) else none
  | .sub, .int k a, .int k' b => if k = k' then some (.int k (k.wrap (a - b))) else none
  | .mul, .int k a, .int k' b => if k = k' then some (.int k (k.wrap (a * b))) else none
  | .quo, .int k a, .int k' b => if k = k' ∧ b ≠ 0 then some (.int k (k.wrap (a.tdiv b))) else none
  | .rem, .int k a, .int k' b => if k = k' ∧ b ≠ 0 then some (.int k (a.tmod b)) else none
  | .eql, .int k a, .int k' b => if k = k' then some (.bool (decide (a = b))) else none
  | .neq, .int k a, .int k' b => if k = k' then some (.bool (decide (a ≠ b))) else none
  | .lss, .int k a, .int k' b => if k = k' then some (.bool (decide (a < b))) else none
  | .leq, .int k a, .int k' b => if k = k' then some (.bool (decide (a ≤ b))) else none
  | .gtr, .int k a, .int k' b => if k = k' then some (.bool (decide (b < a))) else none
  | .geq, .int k a, .int k' b => if k = k' then some (.bool (decide (b ≤ a))) else none
  | .add, .str a, .str b => if a.length + b.length ≤ maxLen then some (.str (a ++ b)) else none
  | .eql, .str a, .str b => some (.bool (decide (a = b)))
  | .neq, .str a, .str b => some (.bool (decide (a ≠ b)))
  | .lss, .str a, .str b => some (.bool (Op.bytesLess a b))
  | .gtr, .str a, .str b => some (.bool (!(Op.bytesLess a b || decide (a = b))))
  | .leq, .str a, .str b => some (.bool (Op.bytesLess a b || decide (a = b)))
  | .geq, .str a, .str b => some (.bool (!(Op.bytesLess a b)))
  | _, _, _ => none

theorem sbin_sound {op : BinOp} {x y h : HV} (hs : sbin op x y = some h) {ρ : Nat → Nat} {R : HV → Prop} (hr : R (h.ren ρ)) : abin op (x.ren ρ) (y.ren ρ) R := by
  unfold sbin at hs
  split at hs <;> first
    | (cases hs; exact hr)
    | (split at hs
       · rename_i hc
         cases hs
         first
           | exact ⟨hc, hr⟩
           | exact ⟨hc.1, hc.2, hr⟩
       · cases hs)
    | cases hs

def sasl (s : AS) (lo : Option Operand) (d : Int) : Option Int := asl s lo d
theorem asl_ren (ρ : Nat → Nat) (s : AS) (lo : Option Operand) (d : Int) : asl (s.ren ρ) lo d = asl s lo d := by
  unfold asl
  cases lo with
  | none => rfl
  | some x =>
    simp only [ev_ren]
    cases s.ev x with
    | none => rfl
    | some h => cases h <;> rfl

def sElem (T : TypeId → Option TyI) (t : TypeId) : Option Nat :=
  match T t with
  | some ⟨.slice e, _, _, _⟩ => (T e).map (·.size)
  | some ⟨.array _ e, _, _, _⟩ => (T e).map (·.size)
  | _ => none

def sField (T : TypeId → Option TyI) (S : TypeId) (f : Nat) : Option (Nat × TyI) :=
  match T S with
  | some ⟨.struct fs, _, _, _⟩ => match fs[f]? with
    | some fd => match T fd.type with
      | some U => if U.size = 0 then none else some (fd.offset, U)
      | none => none
    | none => none
  | _ => none

section
variable {P : Program} {T : TypeId → Option TyI}

theorem sElem_sound (hT : TabOk P T) {t : TypeId} {k : Nat} (h : sElem T t = some k) : elemSize P t = some k := by
  unfold sElem at h
  split at h
  · rename_i e _ _ _ ht
    obtain ⟨U, hU, rfl⟩ := Option.map_eq_some_iff.1 h
    simp [elemSize, hT _ _ ht, hT _ _ hU]
  · rename_i n e _ _ _ ht
    obtain ⟨U, hU, rfl⟩ := Option.map_eq_some_iff.1 h
    simp [elemSize, hT _ _ ht, hT _ _ hU]
  · cases h

theorem sField_sound (hT : TabOk P T) {S : TypeId} {f : Nat} {r : Nat × TyI} (h : sField T S f = some r) : fieldOf P S f = some r := by
  unfold sField at h
  split at h
  · rename_i fs _ _ _ ht
    split at h
    · rename_i fd hfd
      split at h
      · rename_i U hU
        split at h
        · cases h
        · rename_i h0
          cases h
          simp [fieldOf, hT _ _ ht, hfd, hT _ _ hU, h0]
      · cases h
    · cases h
  · cases h
end

def aliveB (H : Heap) (id ver : Nat) : Bool := match hget H id with
  | some (v, _) => Nat.beq v ver
  | none => false

theorem aliveB_sound {H : Heap} {id ver : Nat} {ρ : Nat → Nat} (h : aliveB H id ver = true) : alive (renH ρ H) id (ρ ver) := by
  unfold aliveB at h
  unfold alive
  rw [hget_ren]
  cases hg : hget H id with
  | none => rw [hg] at h; cases h
  | some x =>
    obtain ⟨v, o⟩ := x
    rw [hg] at h
    have : v = ver := Nat.eq_of_beq_eq_true h
    simp [this]

def guardO {α : Type} (c : Bool) (x : Option α) : Option α := match c with
  | true => x
  | false => none
theorem guardO_some {α : Type} {c : Bool} {x : Option α} {y : α} (h : guardO c x = some y) : c = true ∧ x = some y := by
  cases c with
  | true => exact ⟨rfl, h⟩
  | false => cases h

def sbinT (T : TypeId → Option TyI) (op : BinOp) (tx : TypeId) (x y : HV) : Option HV :=
  match x, y with
  | .bool a, .bool b => match op, T tx with
    | .eql, some ⟨.bool, _, _, _⟩ => some (.bool (a == b))
    | .neq, some ⟨.bool, _, _, _⟩ => some (.bool (!(a == b)))
    | _, _ => none
  | _, _ => sbin op x y

theorem sbinT_sound {P : Program} {T : TypeId → Option TyI} (hT : TabOk P T) {op : BinOp} {tx : TypeId} {x y h : HV} (hs : sbinT T op tx x y = some h) {ρ : Nat → Nat} {R : HV → Prop} (hr : R (h.ren ρ)) : abinT P op tx (x.ren ρ) (y.ren ρ) R := by
  unfold sbinT at hs
  split at hs
  · split at hs
    · rename_i hU
      cases hs
      simp only [HV.ren, abinT, hT _ _ hU]
      exact hr
    · rename_i hU
      cases hs
      simp only [HV.ren, abinT, hT _ _ hU]
      exact hr
    · cases hs
  · rename_i hno
    have := sbin_sound hs hr
    unfold abinT
    split
    · rename_i e1 e2
      exfalso
      cases x with
      | bool a => cases y with
        | bool b => exact hno _ _ rfl rfl
        | _ => cases e2
      | _ => cases e1
    · exact this

def sval (T : TypeId → Option TyI) (op : Op) (s : AS) : Option HV :=
  match op with
  | .move x => s.ev x
  | .assign x => s.ev x
  | .pick c a b => match s.ev c, s.ev a, s.ev b with
    | some (.bool true), some h, some _ => some h
    | some (.bool false), some _, some h => some h
    | _, _, _ => none
  | .load t a => match T t, s.ev a with
    | some U, some (.fptr cs off) => sload U cs off
    | some U, some (.ptr id ver off) => match hget s.heap id with
      | some (ver', .arr _ _ cs) => guardO (Nat.beq ver ver') (sload U cs off)
      | _ => none
    | _, _ => none
  | .nilCheck x => match s.ev x with
    | some (.ptr id ver off) => guardO (aliveB s.heap id ver) (some (.ptr id ver off))
    | some (.fptr cs off) => some (.fptr cs off)
    | _ => none
  | .binOp op tx x y _ => match s.ev x, s.ev y with
    | some h, some g => sbinT T op tx h g
    | _, _ => none
  | .unOp op _ x => match op, s.ev x with
    | .not, some (.bool b) => some (.bool (!b))
    | .neg, some (.int k n) => some (.int k (k.wrap (0 - n)))
    | _, _ => none
  | .convert src dst x => match T src, T dst, s.ev x with
    | some _, some ⟨.int k, _, _, _⟩, some (.int _ n) => some (.int k (k.wrap n))
    | some _, some ⟨.string, _, _, _⟩, some (.int _ n) => some (.str (Utf8.encode n).data.toList)
    | some _, some ⟨.string, _, _, _⟩, some (.str l) => some (.str l)
    | _, _, _ => none
  | .makeFunc fn first caps => match first.toList.mapM s.ev, caps.toList.mapM s.ev with
    | some fs, some cs => some (.fn fn fs cs)
    | _, _ => none
  | .fieldAddr S x f => match sField T S f, s.ev x with
    | some (o, _), some (.ptr id ver off) => guardO (aliveB s.heap id ver) (some (.ptr id ver (off + o)))
    | some (o, _), some (.fptr cs off) => some (.fptr cs (off + o))
    | _, _ => none
  | .field S x f => match sField T S f, s.ev x with
    | some (o, U), some (.agg cs) => sload U cs o
    | _, _ => none
  | .indexAddr t x i => match T t, sElem T t, s.ev x, s.ev i with
    | some ⟨.slice _, _, _, _⟩, some k', some (.sl k n cs), some (.int _ j) => guardO (decide (k = k' ∧ 0 ≤ j ∧ j < n)) (some (.fptr cs (j.toNat * k)))
    | some ⟨.slice _, _, _, _⟩, some k', some (.ar id ver k off n), some (.int _ j) => guardO (decide (k = k' ∧ 0 ≤ j ∧ j < n)) (guardO (aliveB s.heap id ver) (some (.ptr id ver (off + j.toNat * k))))
    | some ⟨.array len _, _, _, _⟩, some k', some (.ptr id ver off), some (.int _ j) => guardO (decide (0 ≤ j ∧ j < len)) (guardO (aliveB s.heap id ver) (some (.ptr id ver (off + j.toNat * k'))))
    | some ⟨.array len _, _, _, _⟩, some k', some (.fptr cs off), some (.int _ j) => guardO (decide (0 ≤ j ∧ j < len)) (some (.fptr cs (off + j.toNat * k')))
    | _, _, _, _ => none
  | .index t x i => match T t, s.ev x, s.ev i with
    | some ⟨.string, _, _, _⟩, some (.str l), some (.int _ j) => guardO (decide (0 ≤ j)) (match l[j.toNat]? with
      | some b => some (.int .u8 b.toNat)
      | none => none)
    | some ⟨.array len e, _, _, _⟩, some (.agg cs), some (.int _ j) => guardO (decide (0 ≤ j ∧ j < len)) (match T e with
      | some U => sload U cs (j.toNat * U.size)
      | none => none)
    | _, _, _ => none
  | .extract x i => match s.ev x with
    | some (.tup vs) => vs[i]?
    | _ => none
  | .slice t x lo hi none => match T t, sElem T t, s.ev x with
    | some ⟨.string, _, _, _⟩, _, some (.str l) => match asl s lo 0, asl s hi l.length with
      | some a, some b => guardO (decide (0 ≤ a ∧ a ≤ b ∧ b ≤ l.length)) (some (.str ((l.take b.toNat).drop a.toNat)))
      | _, _ => none
    | some ⟨.slice _, _, _, _⟩, some k', some (.sl k n cs) => match asl s lo 0, asl s hi n with
      | some a, some b => guardO (decide (k = k' ∧ 0 ≤ a ∧ a ≤ b ∧ b ≤ n)) (some (.sl k (b.toNat - a.toNat) ((cs.take (b.toNat * k)).drop (a.toNat * k))))
      | _, _ => none
    | some ⟨.slice _, _, _, _⟩, some k', some (.ar id ver k off n) => match asl s lo 0, asl s hi n with
      | some a, some b => guardO (decide (k = k' ∧ 0 ≤ a ∧ a ≤ b ∧ b ≤ n ∧ (a = 0 ∨ a < n))) (guardO (aliveB s.heap id ver) (some (.ar id ver k (off + a.toNat * k) (b.toNat - a.toNat))))
      | _, _ => none
    | _, _, _ => none
  | .call c => match c.callee, c.argTypes.toList, c.args.toList with
    | .builtin .len, [t], [x] => match T t, s.ev x with
      | some ⟨.string, _, _, _⟩, some (.str l) => some (.int .i64 l.length)
      | some ⟨.slice _, _, _, _⟩, some (.sl _ n _) => some (.int .i64 n)
      | some ⟨.slice _, _, _, _⟩, some (.ar id ver _ _ n) => guardO (aliveB s.heap id ver) (some (.int .i64 n))
      | some ⟨.slice _, _, _, _⟩, some (.v (.slice none 0 0)) => some (.int .i64 0)
      | some ⟨.map _ _, _, _, _⟩, some (.v (.map none)) => some (.int .i64 0)
      | some ⟨.map _ _, _, _, _⟩, some (.mp id ver) => match hget s.heap id with
        | some (ver', .map es) => guardO (Nat.beq ver ver' && Nat.ble es.length maxLen) (some (.int .i64 es.length))
        | _ => none
      | _, _ => none
    | .builtin .min, _, [x, y] => match s.ev x, s.ev y with
      | some (.int k a), some (.int k' c) => guardO (decide (k = k')) (some (.int k (min a c)))
      | _, _ => none
    | .builtin .max, _, [x, y] => match s.ev x, s.ev y with
      | some (.int k a), some (.int k' c) => guardO (decide (k = k')) (some (.int k (max a c)))
      | _, _ => none
    | .builtin .min, _, [x, y, z] => match s.ev x, s.ev y, s.ev z with
      | some (.int k a), some (.int k' c), some (.int k'' d) => guardO (decide (k = k' ∧ k = k'')) (some (.int k (min (min a c) d)))
      | _, _, _ => none
    | .builtin .max, _, [x, y, z] => match s.ev x, s.ev y, s.ev z with
      | some (.int k a), some (.int k' c), some (.int k'' d) => guardO (decide (k = k' ∧ k = k'')) (some (.int k (max (max a c) d)))
      | _, _, _ => none
    | _, _, _ => none
  | _ => none

theorem renE_len (ρ : Nat → Nat) : ∀ l, (renE ρ l).length = l.length
  | [] => rfl
  | _ :: l => by simp [renE, renE_len ρ l]

theorem hget_s (ρ : Nat → Nat) {s : AS} {id v : Nat} {o : AObj} (h : hget s.heap id = some (v, o)) : hget (s.ren ρ).heap id = some (ρ v, o.ren ρ) := by
  show hget (renH ρ s.heap) id = _
  rw [hget_ren, h]
  rfl

section
variable {P : Program} {T : TypeId → Option TyI} {s : AS} {ρ : Nat → Nat} {R : HV → Prop}

theorem sval_sound (hT : TabOk P T) {op : Op} {r : HV} (h : sval T op s = some r) (hr : R (r.ren ρ)) : aval P op (s.ren ρ) R := by
  unfold sval at h
  split at h
  · simp only [aval, ev_ren, h, Option.map_some]; exact hr
  · simp only [aval, ev_ren, h, Option.map_some]; exact hr
  · -- pick
    rename_i c a b
    split at h
    · rename_i h1 g hc ha hb
      cases h
      simp only [aval, ev_ren, hc, ha, hb, Option.map_some, HV.ren]
      split
      all_goals simp_all
    · rename_i g h1 hc ha hb
      cases h
      simp only [aval, ev_ren, hc, ha, hb, Option.map_some, HV.ren]
      split
      all_goals simp_all
    · cases h
  · -- load
    split at h
    · rename_i U cs off hU hx
      simp only [aval, ev_ren, hT _ _ hU, hx, Option.map_some, HV.ren]
      exact sload_sound h hr
    · rename_i U id ver off hU hx
      split at h
      · rename_i ver' k e cs hg
        obtain ⟨hv, h'⟩ := guardO_some h
        have hv := Nat.eq_of_beq_eq_true hv
        subst hv
        simp only [aval, ev_ren, hT _ _ hU, hx, Option.map_some, HV.ren, hget_s ρ hg, AObj.ren]
        exact ⟨trivial, sload_sound h' hr⟩
      · cases h
    · cases h
  · -- nilCheck
    split at h
    · rename_i id ver off hx
      obtain ⟨hv, h⟩ := guardO_some h
      cases h
      have := aliveB_sound (ρ := ρ) hv
      simp only [aval, ev_ren, hx, Option.map_some, HV.ren]
      unfold alive at this
      have e : (s.ren ρ).heap = renH ρ s.heap := rfl
      rw [e]
      cases hh : hget (renH ρ s.heap) id with
      | none => rw [hh] at this; exact this
      | some x => rw [hh] at this; exact ⟨this.symm, hr⟩
    · rename_i cs off hx
      cases h
      simp only [aval, ev_ren, hx, Option.map_some, HV.ren]
      exact hr
    · cases h
  · -- binOp
    split at h
    · rename_i x y hx hy
      simp only [aval, ev_ren, hx, hy, Option.map_some]
      exact sbinT_sound hT h hr
    · cases h
  · -- unOp
    split at h
    · rename_i b hx
      cases h
      simp only [aval, ev_ren, hx, Option.map_some, HV.ren]
      exact hr
    · rename_i k n hx
      cases h
      simp only [aval, ev_ren, hx, Option.map_some, HV.ren]
      exact hr
    · cases h
  · -- convert
    split at h
    · rename_i U k _ _ _ k0 n hU hD hx
      cases h
      simp only [aval, ev_ren, hT _ _ hU, hT _ _ hD, hx, Option.map_some, HV.ren]
      exact hr
    · rename_i U _ _ _ k0 n hU hD hx
      cases h
      simp only [aval, ev_ren, hT _ _ hU, hT _ _ hD, hx, Option.map_some, HV.ren]
      exact hr
    · rename_i U _ _ _ l hU hD hx
      cases h
      simp only [aval, ev_ren, hT _ _ hU, hT _ _ hD, hx, Option.map_some, HV.ren]
      exact hr
    · cases h
  · -- makeFunc
    split at h
    · rename_i fs cs hf hc
      cases h
      simp only [aval, evL_ren, hf, hc, Option.map_some]
      exact hr
    · cases h
  · -- fieldAddr
    split at h
    · rename_i o U id ver off hF hx
      obtain ⟨hv, h⟩ := guardO_some h
      cases h
      simp only [aval, sField_sound hT hF, ev_ren, hx, Option.map_some, HV.ren]
      exact ⟨aliveB_sound hv, hr⟩
    · rename_i o U cs off hF hx
      cases h
      simp only [aval, sField_sound hT hF, ev_ren, hx, Option.map_some, HV.ren]
      exact hr
    · cases h
  · -- field
    split at h
    · rename_i o U cs hF hx
      simp only [aval, sField_sound hT hF, ev_ren, hx, Option.map_some, HV.ren]
      exact sload_sound h hr
    · cases h
  · -- indexAddr
    split at h
    · rename_i e _ _ _ k' k n cs kk j hU hE hx hi
      obtain ⟨hv, h⟩ := guardO_some h
      cases h
      simp only [aval, hT _ _ hU, sElem_sound hT hE, ev_ren, hx, hi, Option.map_some, HV.ren]
      obtain ⟨h1, h2, h3⟩ := of_decide_eq_true hv
      exact ⟨h1, h2, h3, hr⟩
    · rename_i e _ _ _ k' id ver k off n kk j hU hE hx hi
      obtain ⟨hv, h⟩ := guardO_some h
      obtain ⟨ha, h⟩ := guardO_some h
      cases h
      simp only [aval, hT _ _ hU, sElem_sound hT hE, ev_ren, hx, hi, Option.map_some, HV.ren]
      obtain ⟨h1, h2, h3⟩ := of_decide_eq_true hv
      exact ⟨h1, h2, h3, aliveB_sound ha, hr⟩
    · rename_i len e _ _ _ k' id ver off kk j hU hE hx hi
      obtain ⟨hv, h⟩ := guardO_some h
      obtain ⟨ha, h⟩ := guardO_some h
      cases h
      simp only [aval, hT _ _ hU, sElem_sound hT hE, ev_ren, hx, hi, Option.map_some, HV.ren]
      obtain ⟨h1, h2⟩ := of_decide_eq_true hv
      exact ⟨h1, h2, aliveB_sound ha, hr⟩
    · rename_i len e _ _ _ k' cs off kk j hU hE hx hi
      obtain ⟨hv, h⟩ := guardO_some h
      cases h
      simp only [aval, hT _ _ hU, sElem_sound hT hE, ev_ren, hx, hi, Option.map_some, HV.ren]
      obtain ⟨h1, h2⟩ := of_decide_eq_true hv
      exact ⟨h1, h2, hr⟩
    · cases h
  · -- index
    split at h
    · rename_i _ _ _ l k j hU hx hi
      obtain ⟨hv, h⟩ := guardO_some h
      split at h
      · rename_i b hb
        cases h
        simp only [aval, hT _ _ hU, ev_ren, hx, hi, Option.map_some, HV.ren, hb]
        exact ⟨of_decide_eq_true hv, hr⟩
      · cases h
    · rename_i len e _ _ _ cs k j hU hx hi
      obtain ⟨hv, h⟩ := guardO_some h
      split at h
      · rename_i U hE
        simp only [aval, hT _ _ hU, ev_ren, hx, hi, Option.map_some, HV.ren, hT _ _ hE]
        obtain ⟨h1, h2⟩ := of_decide_eq_true hv
        exact ⟨h1, h2, sload_sound h hr⟩
      · cases h
    · cases h
  · -- extract
    split at h
    · rename_i vs hx
      simp only [aval, ev_ren, hx, Option.map_some, HV.ren, renL_get, h]
      exact hr
    · cases h
  · -- slice
    split at h
    · rename_i _ _ _ l hU hx
      split at h
      · rename_i a b ha hb
        obtain ⟨hv, h⟩ := guardO_some h
        cases h
        simp only [aval, hT _ _ hU, ev_ren, hx, Option.map_some, HV.ren, asl_ren, ha, hb]
        obtain ⟨h1, h2, h3⟩ := of_decide_eq_true hv
        exact ⟨h1, h2, h3, hr⟩
      · cases h
    · rename_i e _ _ _ k' k n cs hU hE hx
      split at h
      · rename_i a b ha hb
        obtain ⟨hv, h⟩ := guardO_some h
        cases h
        simp only [aval, hT _ _ hU, sElem_sound hT hE, ev_ren, hx, Option.map_some, HV.ren, asl_ren, ha, hb]
        obtain ⟨h1, h2, h3, h4⟩ := of_decide_eq_true hv
        refine ⟨h1, h2, h3, h4, ?_⟩
        rw [← renL_take, ← renL_drop]
        exact hr
      · cases h
    · rename_i e _ _ _ k' id ver k off n hU hE hx
      split at h
      · rename_i a b ha hb
        obtain ⟨hv, h⟩ := guardO_some h
        obtain ⟨hl, h⟩ := guardO_some h
        cases h
        simp only [aval, hT _ _ hU, sElem_sound hT hE, ev_ren, hx, Option.map_some, HV.ren, asl_ren, ha, hb]
        obtain ⟨h1, h2, h3, h4, h5⟩ := of_decide_eq_true hv
        exact ⟨h1, h2, h3, h4, h5, aliveB_sound hl, hr⟩
      · cases h
    · cases h
  · -- call
    split at h
    · rename_i c t x hc ht hx
      split at h
      · rename_i _ _ _ l hU hl
        cases h
        simp only [aval, hc, ht, hx, hT _ _ hU, ev_ren, hl, Option.map_some, HV.ren]; exact hr
      · rename_i e _ _ _ k n cs hU hl
        cases h
        simp only [aval, hc, ht, hx, hT _ _ hU, ev_ren, hl, Option.map_some, HV.ren]; exact hr
      · rename_i e _ _ _ id ver k off n hU hl
        obtain ⟨hv, h⟩ := guardO_some h
        cases h
        simp only [aval, hc, ht, hx, hT _ _ hU, ev_ren, hl, Option.map_some, HV.ren]; exact ⟨aliveB_sound hv, hr⟩
      · rename_i e _ _ _ hU hl
        cases h
        simp only [aval, hc, ht, hx, hT _ _ hU, ev_ren, hl, Option.map_some, HV.ren]; exact hr
      · rename_i e _ _ _ hU hl
        cases h
        simp only [aval, hc, ht, hx, hT _ _ hU, ev_ren, hl, Option.map_some, HV.ren]; exact hr
      · rename_i e _ _ _ _ id ver hU hl
        split at h
        · rename_i ver' es hg
          obtain ⟨hv, h⟩ := guardO_some h
          cases h
          simp only [Bool.and_eq_true] at hv
          have hve := Nat.eq_of_beq_eq_true hv.1
          subst hve
          simp only [aval, hc, ht, hx, hT _ _ hU, ev_ren, hl, Option.map_some, HV.ren, hget_s ρ hg, AObj.ren, renE_len]
          exact ⟨trivial, Nat.le_of_ble_eq_true hv.2, hr⟩
        · cases h
      · cases h
    · rename_i c x y hc hx
      split at h
      · rename_i k a k' b ha hb
        obtain ⟨hv, h⟩ := guardO_some h
        cases h
        simp only [aval, hc, hx, ev_ren, ha, hb, Option.map_some, HV.ren]
        exact ⟨.inl trivial, of_decide_eq_true hv, hr⟩
      · cases h
    · rename_i c x y hc hx
      split at h
      · rename_i k a k' b ha hb
        obtain ⟨hv, h⟩ := guardO_some h
        cases h
        simp only [aval, hc, hx, ev_ren, ha, hb, Option.map_some, HV.ren]
        exact ⟨.inr trivial, of_decide_eq_true hv, hr⟩
      · cases h
    · rename_i c x y z hc hx
      split at h
      · rename_i k a k' b k'' d ha hb hd
        obtain ⟨hv, h⟩ := guardO_some h
        cases h
        simp only [aval, hc, hx, ev_ren, ha, hb, hd, Option.map_some, HV.ren]
        obtain ⟨h1, h2⟩ := of_decide_eq_true hv
        exact ⟨.inl trivial, h1, h2, hr⟩
      · cases h
    · rename_i c x y z hc hx
      split at h
      · rename_i k a k' b k'' d ha hb hd
        obtain ⟨hv, h⟩ := guardO_some h
        cases h
        simp only [aval, hc, hx, ev_ren, ha, hb, hd, Option.map_some, HV.ren]
        obtain ⟨h1, h2⟩ := of_decide_eq_true hv
        exact ⟨.inr trivial, h1, h2, hr⟩
      · cases h
    · cases h
  · cases h
end
end Go.AW
