/- The layer of abstract values: what a Go value stands for, without addresses. An abstract value is related to a value of the model in a world (Rep); the relation is kept when the world grows (Evo). -/
import Derived.WalkKit
import Derived.OrdersIn
import Derived.RangeFuncIn
import Derived.RangeFuncLeaves
namespace Go.AW
open Go

/-- Abstract values. sl: a slice that nobody writes any more (k cells an element, n elements). ar: a slice of an array that the running code owns. ptr: a pointer into memory that it owns; fptr: a pointer to cells that nobody writes any more. mp: a map that it owns. yl: the yield function of a loop. -/
inductive HV where
  | int (k : IntKind) (n : Int)
  | bool (b : Bool)
  | str (l : List UInt8)
  | v (x : Value)
  | agg (cs : List HV)
  | tup (cs : List HV)
  | sl (k n : Nat) (cs : List HV)
  | ar (id ver k off n : Nat)
  | ptr (id ver off : Nat)
  | fptr (cs : List HV) (off : Nat)
  | fn (f : Fn) (first caps : List HV)
  | mp (id ver : Nat)
  | yl (id ver : Nat)
  | it (id ver : Nat)
  deriving Inhabited

/-- Which versions have been handed out, and where an object of a given number lies (none: a nil slice). -/
structure Mu where
  nx : Nat
  loc : Nat → Option (Nat × Option Nat)
  /-- blocks that callers own -/
  held : Nat → Prop

def Mu.owned (μ : Mu) (b : Nat) : Prop := ∃ id ver, μ.loc id = some (ver, some b)
def Mu.owns (μ : Mu) (b : Nat) : Prop := μ.owned b ∨ μ.held b
def Mu.dead (μ : Mu) (id ver : Nat) : Prop := ver < μ.nx ∧ ∀ b, μ.loc id ≠ some (ver, b)
def Mu.ok (μ : Mu) : Prop := ∀ id ver b, μ.loc id = some (ver, b) → ver < μ.nx

/-- the values that one cell takes -/
def HV.one : HV → Bool
  | .v x => x.oneCell'
  | .agg _ | .tup _ => false
  | _ => true

def ones (cs : List HV) : Prop := ∀ c ∈ cs, c.one = true

theorem ones.append {cs ds : List HV} (h : ones cs) (h' : ones ds) : ones (cs ++ ds) := fun c hc => (List.mem_append.1 hc).elim (h c) (h' c)
theorem ones.take {cs : List HV} (h : ones cs) (n : Nat) : ones (cs.take n) := fun c hc => h c (List.mem_of_mem_take hc)
theorem ones.drop {cs : List HV} (h : ones cs) (n : Nat) : ones (cs.drop n) := fun c hc => h c (List.mem_of_mem_drop hc)
theorem ones.nil : ones [] := fun _ h => by cases h
theorem ones.single {c : HV} (h : c.one = true) : ones [c] := fun d hd => by simp at hd; exact hd ▸ h
theorem ones.set {cs : List HV} (h : ones cs) {c : HV} (hc : c.one = true) (i : Nat) : ones (cs.set i c) := fun d hd => (List.mem_or_eq_of_mem_set hd).elim (h d) (fun e => e ▸ hc)

def Seg (w : World) (b off : Nat) (vs : List Value) : Prop :=
  ∃ cur e fr pre post, w.heap[b]? = some (.cells cur e fr) ∧ cur.toList = pre ++ vs ++ post ∧ pre.length = off

/-- a row of cells that may be written -/
def Row (w : World) (b : Nat) (cur : Array Value) (e : TypeId) : Prop := ∃ lo hi, w.heap[b]? = some (.cells cur e (lo, hi)) ∧ (hi ≤ lo ∨ cur.size ≤ lo)

theorem Row.lt {w : World} {b : Nat} {cur : Array Value} {e : TypeId} (h : Row w b cur e) : b < w.heap.size := by
  obtain ⟨lo, hi, h, _⟩ := h
  exact (Array.getElem?_eq_some_iff.1 h).1

theorem Row.free {w : World} {b : Nat} {cur : Array Value} {e : TypeId} (h : Row w b cur e) {i : Nat} (hi : i < cur.size) : w.frozen? ⟨b, i, none⟩ = false := by
  obtain ⟨lo, hi', h, hf⟩ := h
  simp only [World.frozen?, h]
  rcases hf with hf | hf <;> simp <;> omega

theorem Row.cell {w : World} {b : Nat} {cur : Array Value} {e : TypeId} (h : Row w b cur e) (i : Nat) : w.cell? ⟨b, i, none⟩ = cur[i]? := by
  obtain ⟨lo, hi', h, hf⟩ := h
  simp only [World.cell?, h]
  simp

theorem Row.of_heap {w w' : World} {b : Nat} {cur : Array Value} {e : TypeId} (h : Row w b cur e) (hh : w'.heap[b]? = w.heap[b]?) : Row w' b cur e := by
  obtain ⟨lo, hi, h, hf⟩ := h
  exact ⟨lo, hi, hh.trans h, hf⟩

theorem Row.inj {w : World} {b : Nat} {cur cur' : Array Value} {e e' : TypeId} (h : Row w b cur e) (h' : Row w b cur' e') : cur = cur' ∧ e = e' := by
  obtain ⟨lo, hi, h, _⟩ := h
  obtain ⟨lo', hi', h', _⟩ := h'
  rw [h] at h'
  cases h'
  exact ⟨rfl, rfl⟩

mutual
def Rep (w : World) (μ : Mu) : HV → Value → Prop
  | .int k n, val => val = .int k n ∧ (Lit.int k n).wf = true
  | .bool b, val => val = .bool b
  | .str l, val => val = .string ⟨l.toArray⟩ ∧ l.length ≤ maxLen
  | .v x, val => val = x
  | .agg cs, val => ones cs ∧ ∃ vs, val = .agg vs.toArray ∧ RepL w μ cs vs
  | .tup cs, val => ∃ vs, val = .tuple vs.toArray ∧ RepL w μ cs vs
  | .sl k n cs, val => ones cs ∧ cs.length = n * k ∧ n ≤ maxLen ∧ ((n = 0 ∧ val = .slice none 0 0) ∨
      ∃ b off cap vs, val = .slice (some ⟨b, off, none⟩) n cap ∧ n ≤ cap ∧ ¬ μ.owns b ∧ Seg w b off vs ∧ RepL w μ cs vs)
  | .ar id ver k off n, val => (∃ l, μ.loc id = some (ver, l) ∧
        ((l = none ∧ val = .slice none 0 0 ∧ n = 0 ∧ off = 0) ∨
         ∃ b cap cur e, l = some b ∧ val = .slice (some ⟨b, off, none⟩) n cap ∧ n ≤ cap ∧ cap ≤ maxLen ∧ Row w b cur e ∧ off + cap * k = cur.size)) ∨
      (μ.dead id ver ∧ ∃ a m c, val = .slice a m c)
  | .ptr id ver off, val => (∃ b, μ.loc id = some (ver, some b) ∧ val = .pointer (some ⟨b, off, none⟩)) ∨ (μ.dead id ver ∧ ∃ a, val = .pointer a)
  | .fptr cs off, val => ones cs ∧ ∃ b base vs, val = .pointer (some ⟨b, base + off, none⟩) ∧ ¬ μ.owns b ∧ Seg w b base vs ∧ RepL w μ cs vs
  | .fn f fs cs, val => ∃ us vs, val = .func f us.toArray vs.toArray ∧ RepL w μ fs us ∧ RepL w μ cs vs
  | .mp id ver, val => (∃ b, μ.loc id = some (ver, some b) ∧ val = .map (some b)) ∨ (μ.dead id ver ∧ ∃ r, val = .map r)
  | .yl id ver, val => (∃ b, μ.loc id = some (ver, some b) ∧ val = .func (.yield b) #[] #[]) ∨ (μ.dead id ver ∧ ∃ l, val = .func (.yield l) #[] #[])
  | .it id ver, val => (∃ b, μ.loc id = some (ver, some b) ∧ val = .pointer (some ⟨b, 0, none⟩)) ∨ (μ.dead id ver ∧ ∃ a, val = .pointer a)
def RepL (w : World) (μ : Mu) : List HV → List Value → Prop
  | [], vs => vs = []
  | c :: cs, vs => ∃ x xs, vs = x :: xs ∧ Rep w μ c x ∧ RepL w μ cs xs
end

structure Evo (w : World) (μ : Mu) (w' : World) (μ' : Mu) : Prop where
  os : w'.os = w.os
  tape : w'.tape = w.tape
  output : w'.output = w.output
  size : w.heap.size ≤ w'.heap.size
  nx : μ.nx ≤ μ'.nx
  keep : ∀ b, b < w.heap.size → ¬ μ.owned b → w'.heap[b]? = w.heap[b]?
  loc : ∀ id ver b, μ'.loc id = some (ver, b) → ver < μ.nx → μ.loc id = some (ver, b)
  row : ∀ id ver b, μ'.loc id = some (ver, some b) → ver < μ.nx → ∀ cur e, Row w b cur e → ∃ cur', Row w' b cur' e ∧ cur'.size = cur.size
  own : ∀ id ver b, μ'.loc id = some (ver, some b) → b < w.heap.size → μ.owned b
  held : μ'.held = μ.held

theorem Evo.refl (w : World) (μ : Mu) : Evo w μ w μ :=
  ⟨rfl, rfl, rfl, Nat.le_refl _, Nat.le_refl _, fun _ _ _ => rfl, fun _ _ _ h _ => h, fun _ _ _ _ _ cur _ h => ⟨cur, h, rfl⟩, fun id ver _ h _ => ⟨id, ver, h⟩, rfl⟩

theorem Evo.owned_of {w : World} {μ : Mu} {w' : World} {μ' : Mu} (E : Evo w μ w' μ') {b : Nat} (hb : b < w.heap.size) (h : ¬ μ.owned b) : ¬ μ'.owned b :=
  fun ⟨id, ver, h'⟩ => h (E.own id ver b h' hb)

theorem Evo.owns_of {w : World} {μ : Mu} {w' : World} {μ' : Mu} (E : Evo w μ w' μ') {b : Nat} (hb : b < w.heap.size) (h : ¬ μ.owns b) : ¬ μ'.owns b :=
  fun h' => h'.elim (fun h1 => E.owned_of hb (fun h2 => h (.inl h2)) h1) (fun h1 => h (.inr (E.held ▸ h1)))

theorem Evo.trans {w : World} {μ : Mu} {w1 : World} {μ1 : Mu} {w2 : World} {μ2 : Mu} (E1 : Evo w μ w1 μ1) (E2 : Evo w1 μ1 w2 μ2) : Evo w μ w2 μ2 where
  os := E2.os.trans E1.os
  tape := E2.tape.trans E1.tape
  output := E2.output.trans E1.output
  size := Nat.le_trans E1.size E2.size
  nx := Nat.le_trans E1.nx E2.nx
  keep := fun b hb ho => (E2.keep b (Nat.lt_of_lt_of_le hb E1.size) (E1.owned_of hb ho)).trans (E1.keep b hb ho)
  loc := fun id ver b h hv => E1.loc id ver b (E2.loc id ver b h (Nat.lt_of_lt_of_le hv E1.nx)) hv
  row := fun id ver b h hv cur e hc => by
    have h1 := E2.loc id ver _ h (Nat.lt_of_lt_of_le hv E1.nx)
    obtain ⟨cur1, hc1, hs1⟩ := E1.row id ver b h1 hv cur e hc
    obtain ⟨cur2, hc2, hs2⟩ := E2.row id ver b h (Nat.lt_of_lt_of_le hv E1.nx) cur1 e hc1
    exact ⟨cur2, hc2, hs2.trans hs1⟩
  own := fun id ver b h hb => by
    obtain ⟨id', ver', h'⟩ := E2.own id ver b h (Nat.lt_of_lt_of_le hb E1.size)
    exact E1.own id' ver' b h' hb
  held := E2.held.trans E1.held

theorem Evo.dead {w : World} {μ : Mu} {w' : World} {μ' : Mu} (E : Evo w μ w' μ') {id ver : Nat} (h : μ.dead id ver) : μ'.dead id ver :=
  ⟨Nat.lt_of_lt_of_le h.1 E.nx, fun b hb => h.2 b (E.loc id ver b hb h.1)⟩

theorem Evo.live_or {w : World} {μ : Mu} {w' : World} {μ' : Mu} (E : Evo w μ w' μ') (hok : μ.ok) {id ver : Nat} {l : Option Nat} (h : μ.loc id = some (ver, l)) :
    μ'.loc id = some (ver, l) ∨ μ'.dead id ver := by
  by_cases hx : ∃ b, μ'.loc id = some (ver, b)
  · obtain ⟨b, hb⟩ := hx
    have := E.loc id ver b hb (hok _ _ _ h)
    rw [h] at this
    cases this
    exact .inl hb
  · exact .inr ⟨Nat.lt_of_lt_of_le (hok _ _ _ h) E.nx, fun b hb => hx ⟨b, hb⟩⟩

theorem Seg.lt {w : World} {b off : Nat} {vs : List Value} (h : Seg w b off vs) : b < w.heap.size := by
  obtain ⟨cur, e, fr, pre, post, h, _⟩ := h
  exact (Array.getElem?_eq_some_iff.1 h).1

theorem Seg.evo {w : World} {μ : Mu} {w' : World} {μ' : Mu} (E : Evo w μ w' μ') {b off : Nat} {vs : List Value} (ho : ¬ μ.owns b) (h : Seg w b off vs) : Seg w' b off vs := by
  have hb := h.lt
  obtain ⟨cur, e, fr, pre, post, h1, h2, h3⟩ := h
  exact ⟨cur, e, fr, pre, post, (E.keep b hb (fun h => ho (.inl h))).trans h1, h2, h3⟩

mutual
theorem Rep.evo {w : World} {μ : Mu} {w' : World} {μ' : Mu} (E : Evo w μ w' μ') (hok : μ.ok) : ∀ (hv : HV) (val : Value), Rep w μ hv val → Rep w' μ' hv val
  | .int _ _, _, h => h
  | .bool _, _, h => h
  | .str _, _, h => h
  | .v _, _, h => h
  | .agg cs, _, ⟨h1, vs, e, h⟩ => ⟨h1, vs, e, RepL.evo E hok cs vs h⟩
  | .tup cs, _, ⟨vs, e, h⟩ => ⟨vs, e, RepL.evo E hok cs vs h⟩
  | .sl _ _ cs, _, ⟨h1, hl, hm, h⟩ => ⟨h1, hl, hm, h.imp id fun ⟨b, off, cap, vs, e, hn, ho, hs, hr⟩ =>
      ⟨b, off, cap, vs, e, hn, E.owns_of hs.lt ho, hs.evo E ho, RepL.evo E hok cs vs hr⟩⟩
  | .ar id ver k off n, val, h => by
    rcases h with ⟨l, hl, h⟩ | ⟨hd, h⟩
    · rcases E.live_or hok hl with hl' | hd
      · refine .inl ⟨l, hl', ?_⟩
        rcases h with h | ⟨b, cap, cur, e, rfl, hv, hn, hc, hh, hsz⟩
        · exact .inl h
        · obtain ⟨cur', hc', hs'⟩ := E.row id ver b hl' (hok _ _ _ hl) cur e hh
          exact .inr ⟨b, cap, cur', e, rfl, hv, hn, hc, hc', by omega⟩
      · refine .inr ⟨hd, ?_⟩
        rcases h with ⟨_, rfl, _⟩ | ⟨b, cap, cur, e, rfl, rfl, _⟩
        · exact ⟨_, _, _, rfl⟩
        · exact ⟨_, _, _, rfl⟩
    · exact .inr ⟨E.dead hd, h⟩
  | .ptr id ver off, val, h => by
    rcases h with ⟨b, hl, rfl⟩ | ⟨hd, h⟩
    · rcases E.live_or hok hl with hl' | hd
      · exact .inl ⟨b, hl', rfl⟩
      · exact .inr ⟨hd, _, rfl⟩
    · exact .inr ⟨E.dead hd, h⟩
  | .fptr cs _, _, ⟨h1, b, base, vs, e, ho, hs, hr⟩ => ⟨h1, b, base, vs, e, E.owns_of hs.lt ho, hs.evo E ho, RepL.evo E hok cs vs hr⟩
  | .fn _ fs cs, _, ⟨us, vs, e, h1, h2⟩ => ⟨us, vs, e, RepL.evo E hok fs us h1, RepL.evo E hok cs vs h2⟩
  | .mp id ver, val, h => by
    rcases h with ⟨b, hl, rfl⟩ | ⟨hd, h⟩
    · rcases E.live_or hok hl with hl' | hd
      · exact .inl ⟨b, hl', rfl⟩
      · exact .inr ⟨hd, _, rfl⟩
    · exact .inr ⟨E.dead hd, h⟩
  | .yl id ver, val, h => by
    rcases h with ⟨b, hl, rfl⟩ | ⟨hd, h⟩
    · rcases E.live_or hok hl with hl' | hd
      · exact .inl ⟨b, hl', rfl⟩
      · exact .inr ⟨hd, _, rfl⟩
    · exact .inr ⟨E.dead hd, h⟩
  | .it id ver, val, h => by
    rcases h with ⟨b, hl, rfl⟩ | ⟨hd, h⟩
    · rcases E.live_or hok hl with hl' | hd
      · exact .inl ⟨b, hl', rfl⟩
      · exact .inr ⟨hd, _, rfl⟩
    · exact .inr ⟨E.dead hd, h⟩
theorem RepL.evo {w : World} {μ : Mu} {w' : World} {μ' : Mu} (E : Evo w μ w' μ') (hok : μ.ok) : ∀ (cs : List HV) (vs : List Value), RepL w μ cs vs → RepL w' μ' cs vs
  | [], _, h => h
  | c :: cs, _, ⟨x, xs, e, h1, h2⟩ => ⟨x, xs, e, Rep.evo E hok c x h1, RepL.evo E hok cs xs h2⟩
end

theorem RepL.length {w : World} {μ : Mu} : ∀ {cs : List HV} {vs : List Value}, RepL w μ cs vs → vs.length = cs.length
  | [], _, h => by simp [RepL] at h; simp [h]
  | _ :: _, _, ⟨_, _, e, _, h⟩ => by simp [e, RepL.length h]

theorem RepL.append {w : World} {μ : Mu} : ∀ {cs ds : List HV} {vs us : List Value}, RepL w μ cs vs → RepL w μ ds us → RepL w μ (cs ++ ds) (vs ++ us)
  | [], _, _, _, h, h' => by simp only [RepL] at h; subst h; exact h'
  | _ :: _, _, _, _, ⟨x, xs, e, h1, h2⟩, h' => ⟨x, xs ++ _, by simp [e], h1, RepL.append h2 h'⟩

theorem RepL.split {w : World} {μ : Mu} : ∀ {cs ds : List HV} {vs : List Value}, RepL w μ (cs ++ ds) vs → ∃ a b, vs = a ++ b ∧ RepL w μ cs a ∧ RepL w μ ds b
  | [], _, vs, h => ⟨[], vs, rfl, rfl, h⟩
  | _ :: _, _, _, ⟨x, xs, e, h1, h2⟩ => by
    obtain ⟨a, b, rfl, ha, hb⟩ := RepL.split h2
    exact ⟨x :: a, b, by simp [e], ⟨x, a, rfl, h1, ha⟩, hb⟩

theorem RepL.get {w : World} {μ : Mu} : ∀ {cs : List HV} {vs : List Value} (_ : RepL w μ cs vs) {i : Nat} {c : HV}, cs[i]? = some c → ∃ x, vs[i]? = some x ∧ Rep w μ c x
  | [], _, _, i, c, hi => by simp at hi
  | d :: cs, _, ⟨x, xs, e, h1, h2⟩, i, c, hi => by
    subst e
    cases i with
    | zero => simp at hi; subst hi; exact ⟨x, rfl, h1⟩
    | succ i => simp at hi; obtain ⟨y, hy, hr⟩ := RepL.get h2 hi; exact ⟨y, by simpa using hy, hr⟩

theorem RepL.set {w : World} {μ : Mu} : ∀ {cs : List HV} {vs : List Value} (_ : RepL w μ cs vs) {c : HV} {x : Value} (_ : Rep w μ c x) (i : Nat), RepL w μ (cs.set i c) (vs.set i x)
  | [], _, h, _, _, _, i => by simp only [RepL] at h; subst h; simp [RepL]
  | _ :: _, _, ⟨y, ys, e, h1, h2⟩, c, x, hx, i => by
    subst e
    cases i with
    | zero => exact ⟨x, ys, rfl, hx, h2⟩
    | succ i => exact ⟨y, ys.set i x, rfl, h1, RepL.set h2 hx i⟩

theorem RepL.drop {w : World} {μ : Mu} {cs : List HV} {vs : List Value} (h : RepL w μ cs vs) (i : Nat) : RepL w μ (cs.drop i) (vs.drop i) := by
  by_cases hi : i ≤ cs.length
  · have h' : RepL w μ (cs.take i ++ cs.drop i) vs := by rw [List.take_append_drop]; exact h
    obtain ⟨a, b, rfl, ha, hb⟩ := h'.split
    have hl := ha.length
    rw [List.length_take, Nat.min_eq_left hi] at hl
    rw [← hl, List.drop_left]; rw [hl]; exact hb
  · rw [List.drop_eq_nil_of_le (by omega), List.drop_eq_nil_of_le (by have := h.length; omega)]; rfl

theorem RepL.take {w : World} {μ : Mu} {cs : List HV} {vs : List Value} (h : RepL w μ cs vs) (i : Nat) : RepL w μ (cs.take i) (vs.take i) := by
  by_cases hi : i ≤ cs.length
  · have h' : RepL w μ (cs.take i ++ cs.drop i) vs := by rw [List.take_append_drop]; exact h
    obtain ⟨a, b, rfl, ha, hb⟩ := h'.split
    have hl := ha.length
    rw [List.length_take, Nat.min_eq_left hi] at hl
    rw [← hl, List.take_left]; rw [hl]; exact ha
  · rw [List.take_of_length_le (by omega), List.take_of_length_le (by have := h.length; omega)]; exact h

theorem Seg.sub {w : World} {b off : Nat} {vs us ws : List Value} (h : Seg w b off (vs ++ us ++ ws)) : Seg w b (off + vs.length) us := by
  obtain ⟨cur, e, fr, pre, post, h1, h2, h3⟩ := h
  exact ⟨cur, e, fr, pre ++ vs, ws ++ post, h1, by rw [h2]; simp, by simp [h3]⟩

theorem Seg.drop {w : World} {b off : Nat} {vs : List Value} (h : Seg w b off vs) (i : Nat) (hi : i ≤ vs.length) : Seg w b (off + i) (vs.drop i) := by
  have h' : Seg w b off (vs.take i ++ vs.drop i ++ []) := by rw [List.append_nil, List.take_append_drop]; exact h
  have := h'.sub
  rwa [List.length_take, Nat.min_eq_left hi] at this

theorem Seg.take {w : World} {b off : Nat} {vs : List Value} (h : Seg w b off vs) (i : Nat) : Seg w b off (vs.take i) := by
  have h' : Seg w b off ([] ++ vs.take i ++ vs.drop i) := by rw [List.nil_append, List.take_append_drop]; exact h
  exact h'.sub

theorem Seg.cell {w : World} {b off : Nat} {vs : List Value} (h : Seg w b off vs) {i : Nat} {x : Value} (hi : vs[i]? = some x) : w.cell? ⟨b, off + i, none⟩ = some x := by
  obtain ⟨cur, e, fr, pre, post, h1, h2, h3⟩ := h
  have hlt : i < vs.length := by
    rcases Nat.lt_or_ge i vs.length with h | h
    · exact h
    · rw [List.getElem?_eq_none h] at hi; cases hi
  simp only [World.cell?, h1]
  rw [← Array.getElem?_toList, h2, ← h3, List.append_assoc, List.getElem?_append_right (by omega)]
  simp only [Option.isSome_none, Bool.false_eq_true, if_false, Nat.add_sub_cancel_left]
  rw [List.getElem?_append_left hlt]; exact hi

theorem Rep.oneCell {w : World} {μ : Mu} {hv : HV} {val : Value} (h1 : hv.one = true) (h : Rep w μ hv val) : val.oneCell' = true := by
  cases hv with
  | int k n => obtain ⟨rfl, _⟩ := h; rfl
  | bool b => obtain rfl := h; rfl
  | str l => obtain ⟨rfl, _⟩ := h; rfl
  | v x => obtain rfl := h; exact h1
  | agg cs => simp [HV.one] at h1
  | tup cs => simp [HV.one] at h1
  | sl k n cs => rcases h with ⟨_, _, _, ⟨_, rfl⟩ | ⟨b, off, cap, vs, rfl, _⟩⟩ <;> rfl
  | ar id ver k off n =>
    rcases h with ⟨l, _, ⟨_, rfl, _⟩ | ⟨b, cap, cur, e, _, rfl, _⟩⟩ | ⟨_, a, m, c, rfl⟩ <;> rfl
  | ptr id ver off => rcases h with ⟨b, _, rfl⟩ | ⟨_, a, rfl⟩ <;> rfl
  | fptr cs off => obtain ⟨_, b, base, vs, rfl, _⟩ := h; rfl
  | fn f fs cs => obtain ⟨us, vs, rfl, _⟩ := h; rfl
  | mp id ver => rcases h with ⟨b, _, rfl⟩ | ⟨_, a, rfl⟩ <;> rfl
  | yl id ver => rcases h with ⟨b, _, rfl⟩ | ⟨_, a, rfl⟩ <;> rfl
  | it id ver => rcases h with ⟨b, _, rfl⟩ | ⟨_, a, rfl⟩ <;> rfl

theorem RepL.oneCells {w : World} {μ : Mu} : ∀ {cs : List HV} {vs : List Value}, ones cs → RepL w μ cs vs → ∀ v ∈ vs, v.oneCell' = true
  | [], vs, _, h => by simp only [RepL] at h; subst h; simp
  | c :: cs, vs, ho, ⟨x, xs, e, h1, h2⟩ => by
    subst e
    intro v hv
    rcases List.mem_cons.1 hv with rfl | hv
    · exact h1.oneCell (ho c (List.mem_cons_self ..))
    · exact RepL.oneCells (fun d hd => ho d (List.mem_cons_of_mem _ hd)) h2 v hv
end Go.AW
