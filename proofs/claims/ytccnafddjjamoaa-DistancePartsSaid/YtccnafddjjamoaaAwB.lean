/- The abstract state of a running function (slots, objects that it owns), how it is related to the model's state, and the rules of the control statements. -/
import Derived.Test.YtccnafddjjamoaaAwA
namespace Go.AW
open Go

/-- Objects that running code owns: an array whose first cells hold what cs says (k cells an element); a map with its entries; an iterator over a map, with the keys that it has handed out; a loop's record. -/
inductive AObj where
  | arr (k : Nat) (e : TypeId) (cs : List HV)
  | map (es : List (List UInt8 × HV))
  | iter (mid mver : Nat) (seen : List (List UInt8)) (cur : Bool)
  | loop (st : LoopState) (pend : Option Code) (f : FuncId) (n : Nat) (snap : List (Nat × HV)) (ps : Array Tmp) (assign body : Code)
  deriving Inhabited

abbrev Heap := List (Nat × Nat × AObj)

def hget : Heap → Nat → Option (Nat × AObj)
  | [], _ => none
  | (i, v, o) :: h, id => if id = i then some (v, o) else hget h id

def hset : Heap → Nat → Nat → AObj → Heap
  | [], id, v, o => [(id, v, o)]
  | (i, w, p) :: h, id, v, o => if id = i then (i, v, o) :: h else (i, w, p) :: hset h id v o

theorem hget_hset (h : Heap) (id v : Nat) (o : AObj) (j : Nat) : hget (hset h id v o) j = if j = id then some (v, o) else hget h j := by
  induction h with
  | nil => simp [hset, hget]
  | cons x h ih =>
    obtain ⟨i, w, p⟩ := x
    simp only [hset]
    split
    · rename_i he
      subst he
      simp only [hget]
      split <;> simp_all
    · rename_i hne
      simp only [hget, ih]
      by_cases hj : j = i
      · subst hj
        rw [if_pos rfl, if_neg (fun e => hne e.symm), if_pos rfl]
      · rw [if_neg hj, if_neg hj]

def sget : List (Nat × HV) → Nat → Option HV
  | [], _ => none
  | (i, v) :: l, t => if t = i then some v else sget l t

def sset : List (Nat × HV) → Nat → HV → List (Nat × HV)
  | [], t, v => [(t, v)]
  | (i, u) :: l, t, v => if t = i then (i, v) :: l else (i, u) :: sset l t v

theorem sget_sset (l : List (Nat × HV)) (t : Nat) (v : HV) (j : Nat) : sget (sset l t v) j = if j = t then some v else sget l j := by
  induction l with
  | nil => simp [sset, sget]
  | cons x l ih =>
    obtain ⟨i, u⟩ := x
    simp only [sset]
    split
    · rename_i he
      subst he
      simp only [sget]
      split <;> simp_all
    · rename_i hne
      simp only [sget, ih]
      by_cases hj : j = i
      · subst hj
        rw [if_pos rfl, if_neg (fun e => hne e.symm), if_pos rfl]
      · rw [if_neg hj, if_neg hj]

def strV (l : List UInt8) : Value := .string ⟨l.toArray⟩

theorem strV_inj {a b : List UInt8} (h : strV a = strV b) : a = b := by
  simpa [strV] using h

def OR (w : World) (μ : Mu) : AObj → Option Nat → Prop
  | .arr _ _ cs, none => cs = []
  | .arr _ e cs, some b => ones cs ∧ ∃ cur vs rest, Row w b cur e ∧ cur.toList = vs ++ rest ∧ RepL w μ cs vs
  | .map es, some b => ∃ ents clock, w.heap[b]? = some (.map ents clock) ∧ ents.toList.map (·.key) = es.map (fun x => strV x.1) ∧ RepL w μ (es.map (·.2)) (ents.toList.map (·.val)) ∧
      (ents.toList.map (·.born)).Nodup ∧ (∀ x ∈ ents.toList, x.born < clock) ∧ (es.map (·.1)).Nodup ∧ ∀ x ∈ es, x.1.length ≤ maxLen
  | .iter mid mver seen cur, some b => mver < μ.nx ∧ ∃ mb since sn last, w.heap[b]? = some (.mapIter (some mb) since sn last) ∧
      ∀ l, μ.loc mid = some (mver, l) → l = some mb ∧ ∃ ents clock, w.heap[mb]? = some (.map ents clock) ∧ since = clock ∧ last = clock ∧
        (∀ x ∈ ents.toList, (x.born ∈ sn.toList ↔ ∃ k ∈ seen, x.key = strV k)) ∧ (cur = true → ∃ k, seen.head? = some k ∧ ∃ x ∈ ents.toList, x.key = strV k ∧ sn.back? = some x.born)
  | .loop st pend f n snap ps assign body, some b => ∃ tmps dfr, w.heap[b]? = some (.loop { state := st, pending := pend, fn := f, tmps := tmps, params := ps, assign := assign, body := body, defers := dfr }) ∧
      tmps.size = n ∧ ∀ t hv, sget snap t = some hv → t < n ∧ Rep w μ hv (tmps.getD t undef)
  | _, none => False

structure SR (w : World) (μ : Mu) (H : Heap) : Prop where
  ok : μ.ok
  has : ∀ id ver o, hget H id = some (ver, o) → ∃ l, μ.loc id = some (ver, l) ∧ OR w μ o l
  only : ∀ id x, μ.loc id = some x → ∃ y, hget H id = some y
  inj : ∀ i j v u b, μ.loc i = some (v, some b) → μ.loc j = some (u, some b) → i = j
  held : ∀ b, μ.held b → b < w.heap.size ∧ ¬ μ.owned b

theorem OR.lt {w : World} {μ : Mu} {o : AObj} {b : Nat} (h : OR w μ o (some b)) : b < w.heap.size := by
  cases o with
  | arr k e cs => obtain ⟨_, cur, vs, rest, h, _⟩ := h; exact h.lt
  | map es => obtain ⟨ents, clock, h, _⟩ := h; exact (Array.getElem?_eq_some_iff.1 h).1
  | iter mid mver seen cur => obtain ⟨_, mb, since, sn, last, h, _⟩ := h; exact (Array.getElem?_eq_some_iff.1 h).1
  | loop st pend f n snap ps assign body => obtain ⟨tmps, dfr, h, _⟩ := h; exact (Array.getElem?_eq_some_iff.1 h).1

/-- An object abides an evolution that leaves its own block alone (and, of an iterator, its map's block or the map's life). -/
theorem OR.evo {w : World} {μ : Mu} {w' : World} {μ' : Mu} (E : Evo w μ w' μ') (hok : μ.ok) {o : AObj} {l : Option Nat} (h : OR w μ o l)
    (hb : ∀ b, l = some b → w'.heap[b]? = w.heap[b]?)
    (hm : ∀ mid mver seen cur, o = .iter mid mver seen cur → ∀ mb, μ.loc mid = some (mver, some mb) → μ'.loc mid = some (mver, some mb) → w'.heap[mb]? = w.heap[mb]?) : OR w' μ' o l := by
  cases l with
  | none => cases o with
    | arr k e cs => exact h
    | _ => exact h.elim
  | some b =>
    have hb := hb b rfl
    cases o with
    | arr k e cs =>
      obtain ⟨h0, cur, vs, rest, h1, h2, h3⟩ := h
      exact ⟨h0, cur, vs, rest, h1.of_heap hb, h2, RepL.evo E hok cs vs h3⟩
    | map es =>
      obtain ⟨ents, clock, h1, h2, h3, h4, h5⟩ := h
      exact ⟨ents, clock, hb.trans h1, h2, RepL.evo E hok _ _ h3, h4, h5⟩
    | iter mid mver seen cur =>
      obtain ⟨h0, mb, since, sn, last, h1, h2⟩ := h
      refine ⟨Nat.lt_of_lt_of_le h0 E.nx, mb, since, sn, last, hb.trans h1, fun l hl => ?_⟩
      have hl0 := E.loc mid mver l hl h0
      obtain ⟨rfl, ents, clock, h3, h4⟩ := h2 l hl0
      exact ⟨rfl, ents, clock, (hm _ _ _ _ rfl mb hl0 hl).trans h3, h4⟩
    | loop st pend f n snap ps assign body =>
      obtain ⟨tmps, dfr, h1, h2, h3⟩ := h
      exact ⟨tmps, dfr, hb.trans h1, h2, fun t hv ht => ⟨(h3 t hv ht).1, Rep.evo E hok hv _ (h3 t hv ht).2⟩⟩

structure AS where
  slots : List (Nat × HV)
  heap : Heap
  deriving Inhabited

def Marks (B : Nat) (w : World) (μ : Mu) (ds : List Deferred) : Prop :=
  ∃ rs : List Nat, ds = rs.map (fun r => { target := .collected r, args := #[] }) ∧ rs.Nodup ∧ ∀ r ∈ rs, B ≤ r ∧ w.heap[r]? = some (.deferred (some [])) ∧ ¬ μ.owned r

theorem Marks.evo {B : Nat} {w : World} {μ : Mu} {w' : World} {μ' : Mu} (E : Evo w μ w' μ') {ds : List Deferred} (h : Marks B w μ ds) : Marks B w' μ' ds := by
  obtain ⟨rs, h1, h2, h3⟩ := h
  refine ⟨rs, h1, h2, fun r hr => ?_⟩
  obtain ⟨h0, h4, h5⟩ := h3 r hr
  have hlt := (Array.getElem?_eq_some_iff.1 h4).1
  exact ⟨h0, (E.keep r hlt h5).trans h4, E.owned_of hlt h5⟩

theorem Marks.nil (B : Nat) (w : World) (μ : Mu) : Marks B w μ [] := ⟨[], rfl, List.nodup_nil, fun _ h => by cases h⟩

def RoOk (_ : Option Nat) (_ : World) (_ : Mu) : Prop := True

theorem RoOk.evo {ro : Option Nat} {w : World} {μ : Mu} {w' : World} {μ' : Mu} (_ : Evo w μ w' μ') (_ : RoOk ro w μ) : RoOk ro w' μ' := trivial

structure SRel (ro : Option Nat) (N B : Nat) (μ : Mu) (s : AS) (a : Act) (w : World) : Prop where
  size : a.tmps.size = N
  sr : SR w μ s.heap
  slot : ∀ t hv, sget s.slots t = some hv → t < N ∧ Rep w μ hv (a.tmps.getD t undef)
  marks : Marks B w μ a.defers
  ro : RoOk ro w μ

def fence (ro : Option Nat) : Fence := { Fence.wide with round := ro }
theorem fence_fn (ro : Option Nat) (f : FuncId) : (fence ro).fn f := trivial
theorem fence_room (ro : Option Nat) (n : Nat) : (fence ro).room n := fun _ h => by simp [fence, Fence.wide] at h
theorem fence_round (ro : Option Nat) : (fence ro).round = ro := rfl
theorem fence_depth (ro : Option Nat) : (fence ro).depth.isSome = true → 1 ≤ 0 := fun h => by simp [fence, Fence.wide] at h

def Post (ro : Option Nat) (N : Nat) (Q : Exit → AS → Prop) (w0 : World) (μ0 : Mu) (e : Exit) (a : Act) (w : World) : Prop :=
  (∀ ch, e ≠ .panic ch) ∧ e ≠ .outgrown ∧ ∃ μ s, Q e s ∧ SRel ro N w0.heap.size μ s a w ∧ Evo w0 μ0 w μ

/-- THE JUDGEMENT: from every state that the abstract one stands for the code comes to an exit and a state that Q takes; of what it does not own nothing turns. -/
def AW (P : Program) (ro : Option Nat) (N : Nat) (c : Code) (Q : Exit → AS → Prop) (s : AS) : Prop :=
  ∀ w0 μ0 μ a w, SRel ro N w0.heap.size μ s a w → Evo w0 μ0 w μ → c.wpIn (fence ro) 0 P (Post ro N Q w0 μ0) a w

section rules
variable {P : Program} {ro : Option Nat} {N B : Nat} {Q : Exit → AS → Prop} {s : AS}

theorem Post.mono {Q' : Exit → AS → Prop} {w0 : World} {μ0 : Mu} {e : Exit} {a : Act} {w : World} (hq : ∀ e s, Q e s → Q' e s) (h : Post ro N Q w0 μ0 e a w) : Post ro N Q' w0 μ0 e a w :=
  let ⟨h1, h2, μ, s, h3, h4⟩ := h; ⟨h1, h2, μ, s, hq _ _ h3, h4⟩

theorem AW.mono {c : Code} {Q' : Exit → AS → Prop} (h : AW P ro N c Q s) (hq : ∀ e s, Q e s → Q' e s) : AW P ro N c Q' s :=
  fun w0 μ0 μ a w hs hE => wpIn_mono (h w0 μ0 μ a w hs hE) fun _ _ _ hp => hp.mono hq

/-- s' says no more than s. -/
def AS.le (s s' : AS) : Prop := (∀ t hv, sget s'.slots t = some hv → sget s.slots t = some hv) ∧ ∀ id x, hget s'.heap id = some x → hget s.heap id = some x

def Mu.cut (μ : Mu) (H : Heap) : Mu := { nx := μ.nx, loc := fun id => if (hget H id).isSome then μ.loc id else none, held := μ.held }

theorem Mu.cut_some {μ : Mu} {H : Heap} {id : Nat} {x : Nat × Option Nat} (h : (μ.cut H).loc id = some x) : μ.loc id = some x := by
  simp only [Mu.cut] at h
  split at h
  · exact h
  · cases h

theorem Evo.cut (w : World) (μ : Mu) (H : Heap) : Evo w μ w (μ.cut H) where
  os := rfl
  tape := rfl
  output := rfl
  size := Nat.le_refl _
  nx := Nat.le_refl _
  keep := fun _ _ _ => rfl
  loc := fun _ _ _ h _ => Mu.cut_some h
  row := fun _ _ _ _ _ cur _ h => ⟨cur, h, rfl⟩
  own := fun id ver _ h _ => ⟨id, ver, Mu.cut_some h⟩
  held := rfl

theorem SR.sub {w : World} {μ : Mu} {H H' : Heap} (h : SR w μ H) (hs : ∀ id x, hget H' id = some x → hget H id = some x) : SR w (μ.cut H') H' where
  ok := fun id ver b hb => h.ok id ver b (Mu.cut_some hb)
  has := fun id ver o ho => by
    obtain ⟨l, hl, hor⟩ := h.has id ver o (hs id _ ho)
    exact ⟨l, by simp [Mu.cut, ho, hl], hor.evo (Evo.cut w μ H') h.ok (fun _ _ => rfl) (fun _ _ _ _ _ _ _ _ => rfl)⟩
  only := fun id x hx => by
    simp only [Mu.cut] at hx
    split at hx
    · rename_i hi; exact Option.isSome_iff_exists.1 hi
    · cases hx
  inj := fun i j v u b hi hj => h.inj i j v u b (Mu.cut_some hi) (Mu.cut_some hj)
  held := fun b hb => ⟨(h.held b hb).1, fun ⟨id, ver, hl⟩ => (h.held b hb).2 ⟨id, ver, Mu.cut_some hl⟩⟩

theorem SRel.weaken {μ : Mu} {s s' : AS} {a : Act} {w : World} (h : SRel ro N B μ s a w) (hl : s.le s') : SRel ro N B (μ.cut s'.heap) s' a w where
  size := h.size
  sr := h.sr.sub hl.2
  slot := fun t hv ht => ⟨(h.slot t hv (hl.1 t hv ht)).1, Rep.evo (Evo.cut w μ s'.heap) h.sr.ok hv _ (h.slot t hv (hl.1 t hv ht)).2⟩
  marks := h.marks.evo (Evo.cut w μ s'.heap)
  ro := h.ro.evo (Evo.cut w μ s'.heap)

theorem AW.weaken {c : Code} {s' : AS} (h : AW P ro N c Q s') (hl : s.le s') : AW P ro N c Q s :=
  fun w0 μ0 μ a w hs hE => h w0 μ0 (μ.cut s'.heap) a w (hs.weaken hl) (hE.trans (Evo.cut w μ s'.heap))

theorem AW.conseq {c : Code} {Q' : Exit → AS → Prop} (h : AW P ro N c Q' s) (hq : ∀ e s1, Q' e s1 → ∃ s2, s1.le s2 ∧ Q e s2) : AW P ro N c Q s := by
  intro w0 μ0 μ a w hs hE
  refine wpIn_mono (h w0 μ0 μ a w hs hE) ?_
  rintro e a' w' ⟨h1, h2, μ', s1, h3, h4, h5⟩
  obtain ⟨s2, hl, hq2⟩ := hq e s1 h3
  exact ⟨h1, h2, μ'.cut s2.heap, s2, hq2, h4.weaken hl, h5.trans (Evo.cut w' μ' s2.heap)⟩

theorem AS.le_refl (s : AS) : s.le s := ⟨fun _ _ h => h, fun _ _ h => h⟩

def thenQ (k : AS → Prop) (Q : Exit → AS → Prop) : Exit → AS → Prop
  | .normal, s => k s
  | e, s => Q e s

def blockQ (id : Nat) (Q : Exit → AS → Prop) : Exit → AS → Prop
  | .exit id', s => if id' = id then Q .normal s else Q (.exit id') s
  | e, s => Q e s

theorem AW.skip (h : Q .normal s) : AW P ro N .skip Q s :=
  fun _ _ μ _ _ hs hE => wpIn_skip ⟨(fun _ h => by cases h), (fun h => by cases h), μ, s, h, hs, hE⟩
theorem AW.exit {id : Nat} (h : Q (.exit id) s) : AW P ro N (.exit id) Q s :=
  fun _ _ μ _ _ hs hE => wpIn_exit ⟨(fun _ h => by cases h), (fun h => by cases h), μ, s, h, hs, hE⟩
theorem AW.ret (h : Q .ret s) : AW P ro N .ret Q s :=
  fun _ _ μ _ _ hs hE => wpIn_ret ⟨(fun _ h => by cases h), (fun h => by cases h), μ, s, h, hs, hE⟩

theorem AW.seq {x y : Code} (h : AW P ro N x (thenQ (AW P ro N y Q) Q) s) : AW P ro N (.seq x y) Q s := by
  intro w0 μ0 μ a w hs hE
  refine wpIn_seq (wpIn_mono (h w0 μ0 μ a w hs hE) ?_)
  rintro e a' w' ⟨h1, h2, μ', s', h3, h4, h5⟩
  cases e with
  | normal => exact h3 w0 μ0 μ' a' w' h4 h5
  | exit id => exact ⟨h1, h2, μ', s', h3, h4, h5⟩
  | goto l => exact ⟨h1, h2, μ', s', h3, h4, h5⟩
  | ret => exact ⟨h1, h2, μ', s', h3, h4, h5⟩
  | panic ch => exact absurd rfl (h1 ch)
  | outgrown => exact absurd rfl h2

theorem AW.block {id : Nat} {c : Code} (h : AW P ro N c (blockQ id Q) s) : AW P ro N (.block id c) Q s := by
  intro w0 μ0 μ a w hs hE
  refine wpIn_block (wpIn_mono (h w0 μ0 μ a w hs hE) ?_)
  rintro e a' w' ⟨h1, h2, μ', s', h3, h4, h5⟩
  cases e with
  | normal => exact ⟨h1, h2, μ', s', h3, h4, h5⟩
  | exit id' =>
    simp only [Exit.inBlock, blockQ] at h3 ⊢
    split
    · rename_i he
      rw [if_pos he] at h3
      exact ⟨(fun _ h => by cases h), (fun h => by cases h), μ', s', h3, h4, h5⟩
    · rename_i he
      rw [if_neg he] at h3
      exact ⟨h1, h2, μ', s', h3, h4, h5⟩
  | goto l => exact ⟨h1, h2, μ', s', h3, h4, h5⟩
  | ret => exact ⟨h1, h2, μ', s', h3, h4, h5⟩
  | panic ch => exact absurd rfl (h1 ch)
  | outgrown => exact absurd rfl h2

/-- a constant of the text as an abstract value (a number that fits its kind, a text that is no longer than texts are) -/
def constHV : Value → Option HV
  | .int k n => if (Lit.int k n).wf then some (.int k n) else none
  | .bool b => some (.bool b)
  | .string s => if s.data.toList.length ≤ 1000000 then some (.str s.data.toList) else none
  | v => some (.v v)

theorem constHV_rep {w : World} {μ : Mu} {v : Value} {hv : HV} (h : constHV v = some hv) : Rep w μ hv v := by
  cases v with
  | int k n =>
    simp only [constHV] at h
    split at h
    · cases h; exact ⟨rfl, by assumption⟩
    · cases h
  | bool b => cases h; rfl
  | string s =>
    simp only [constHV] at h
    split at h
    · rename_i hl
      cases h
      exact ⟨rfl, by have := hl; simp only [maxLen]; omega⟩
    · cases h
  | _ => cases h; rfl

def AS.ev (s : AS) : Operand → Option HV
  | .tmp t => sget s.slots t
  | .const v => constHV v
  | .global g => some (.v (.pointer (some ⟨g, 0, none⟩)))
  | .func f => some (.fn (.func f) [] [])

theorem SRel.ev {μ : Mu} {a : Act} {w : World} (h : SRel ro N B μ s a w) {x : Operand} {hv : HV} (hx : s.ev x = some hv) : Rep w μ hv (a.eval x) := by
  cases x with
  | tmp t => exact (h.slot t hv hx).2
  | const v => exact constHV_rep hx
  | global g => cases hx; rfl
  | func f => cases hx; exact ⟨[], [], rfl, rfl, rfl⟩

theorem AW.cond {c : Operand} {x y : Code} {t : Bool} (hc : s.ev c = some (.bool t)) (h1 : t = true → AW P ro N x Q s) (h2 : t = false → AW P ro N y Q s) :
    AW P ro N (.cond c x y) Q s := by
  intro w0 μ0 μ a w hs hE
  have hv : a.eval c = .bool t := hs.ev hc
  cases t with
  | true => exact wpIn_cond_true hv (h1 rfl w0 μ0 μ a w hs hE)
  | false => exact wpIn_cond_false hv (h2 rfl w0 μ0 μ a w hs hE)

theorem least (p : Nat → Prop) (h : ∃ n, p n) : ∃ n, p n ∧ ∀ m, p m → n ≤ m := by
  obtain ⟨n, hn⟩ := h
  induction n using Nat.strongRecOn with
  | _ n ih =>
    by_cases hx : ∃ m, m < n ∧ p m
    · obtain ⟨m, hm, hp⟩ := hx
      exact ih m hm hp
    · exact ⟨n, hn, fun m hp => Nat.le_of_not_lt fun hlt => hx ⟨m, hlt, hp⟩⟩

open Classical in
/-- a loop: what holds at each round's head, and a number that gets less -/
theorem AW.loop {c : Code} (I : AS → Prop) (m : AS → Nat) (h0 : ∃ s0, s.le s0 ∧ I s0)
    (round : ∀ s, I s → AW P ro N c (thenQ (fun s' => ∃ s2, s'.le s2 ∧ I s2 ∧ m s2 < m s) Q) s) : AW P ro N (.loop c) Q s := by
  obtain ⟨s0, hl0, hI0⟩ := h0
  refine AW.weaken ?_ hl0
  intro w0 μ0 μ a w hs hE
  let R : Act → World → Nat → Prop := fun a w n => ∃ μ s, I s ∧ m s = n ∧ SRel ro N w0.heap.size μ s a w ∧ Evo w0 μ0 w μ
  let meas : Act → World → Nat := fun a w => if h : ∃ n, R a w n then Classical.choose (least _ h) else 0
  refine wpIn_loop (fun a w => ∃ n, R a w n) meas ⟨_, μ, s0, hI0, rfl, hs, hE⟩ ?_
  intro a w hex
  have hmin : R a w (meas a w) := by
    show R a w (if h : ∃ n, R a w n then Classical.choose (least _ h) else 0)
    rw [dif_pos hex]
    exact (Classical.choose_spec (least _ hex)).1
  obtain ⟨μ1, s1, hI, hm, hs1, hE1⟩ := hmin
  refine wpIn_mono (round s1 hI w0 μ0 μ1 a w hs1 hE1) ?_
  rintro e a' w' ⟨h1, h2, μ', s', h3, h4, h5⟩
  cases e with
  | normal =>
    obtain ⟨s2, hl, hI2, hlt⟩ := h3
    have hR : R a' w' (m s2) := ⟨_, s2, hI2, rfl, h4.weaken hl, h5.trans (Evo.cut w' μ' s2.heap)⟩
    refine ⟨⟨_, hR⟩, ?_⟩
    have hle : meas a' w' ≤ m s2 := by
      show (if h : ∃ n, R a' w' n then Classical.choose (least _ h) else 0) ≤ m s2
      rw [dif_pos ⟨_, hR⟩]
      exact (Classical.choose_spec (least _ ⟨_, hR⟩)).2 _ hR
    omega
  | exit id => exact ⟨h1, h2, μ', s', h3, h4, h5⟩
  | goto l => exact ⟨h1, h2, μ', s', h3, h4, h5⟩
  | ret => exact ⟨h1, h2, μ', s', h3, h4, h5⟩
  | panic ch => exact absurd rfl (h1 ch)
  | outgrown => exact absurd rfl h2

open Classical in
/-- a loop: what holds at each round's head, with its number of rounds that may be left -/
theorem AW.loop' {c : Code} (I : Nat → AS → Prop) (h0 : ∃ n s0, s.le s0 ∧ I n s0)
    (round : ∀ n s, I n s → AW P ro N c (thenQ (fun s' => ∃ n', n' < n ∧ ∃ s2, s'.le s2 ∧ I n' s2) Q) s) : AW P ro N (.loop c) Q s := by
  obtain ⟨n, s0, hl, hI⟩ := h0
  let m : AS → Nat := fun s => if h : ∃ n, I n s then Classical.choose (least _ h) else 0
  have hm : ∀ s n, I n s → I (m s) s ∧ m s ≤ n := fun s n h => by
    have hex : ∃ n, I n s := ⟨n, h⟩
    have e : m s = Classical.choose (least _ hex) := dif_pos hex
    rw [e]
    exact ⟨(Classical.choose_spec (least _ hex)).1, (Classical.choose_spec (least _ hex)).2 _ h⟩
  refine AW.loop (fun s => ∃ n, I n s) m ⟨s0, hl, n, hI⟩ ?_
  rintro s ⟨n, hn⟩
  refine (round (m s) s (hm s n hn).1).mono ?_
  rintro e s' h
  cases e with
  | normal =>
    obtain ⟨n', hlt, s2, hl2, h2⟩ := h
    exact ⟨s2, hl2, ⟨n', h2⟩, Nat.lt_of_le_of_lt (hm s2 n' h2).2 hlt⟩
  | exit id => exact h
  | goto l => exact h
  | ret => exact h
  | panic ch => exact h
  | outgrown => exact h
end rules
end Go.AW
