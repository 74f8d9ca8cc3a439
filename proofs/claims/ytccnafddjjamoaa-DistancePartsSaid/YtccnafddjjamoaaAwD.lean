/- How the owned objects are kept and changed: new blocks, an object laid anew, a cell written. -/
import Derived.Test.YtccnafddjjamoaaAwC
namespace Go.AW
open Go

/-- what a step leaves alone outside the heap -/
structure Same (w w' : World) : Prop where
  os : w'.os = w.os
  tape : w'.tape = w.tape
  output : w'.output = w.output

theorem Same.refl (w : World) : Same w w := ⟨rfl, rfl, rfl⟩
theorem Same.trans {w w1 w2 : World} (h : Same w w1) (h' : Same w1 w2) : Same w w2 := ⟨h'.os.trans h.os, h'.tape.trans h.tape, h'.output.trans h.output⟩

/-- the world has at most new blocks -/
structure Grow (w w' : World) : Prop extends Same w w' where
  size : w.heap.size ≤ w'.heap.size
  old : ∀ b, b < w.heap.size → w'.heap[b]? = w.heap[b]?

theorem Grow.refl (w : World) : Grow w w := ⟨Same.refl w, Nat.le_refl _, fun _ _ => rfl⟩
theorem Grow.trans {w w1 w2 : World} (h : Grow w w1) (h' : Grow w1 w2) : Grow w w2 :=
  ⟨h.toSame.trans h'.toSame, Nat.le_trans h.size h'.size, fun b hb => (h'.old b (Nat.lt_of_lt_of_le hb h.size)).trans (h.old b hb)⟩
theorem Grow.alloc (w : World) (o : Obj) : Grow w (w.alloc o) :=
  ⟨⟨rfl, rfl, rfl⟩, by show w.heap.size ≤ (w.heap.push o).size; rw [Array.size_push]; omega, fun b hb => by
    show (w.heap.push o)[b]? = _
    rw [Array.getElem?_push, if_neg (by omega)]⟩
theorem Grow.drawn (w : World) (n : Nat) : Grow w { w with drawn := n } := ⟨⟨rfl, rfl, rfl⟩, Nat.le_refl _, fun _ _ => rfl⟩

section
variable {w w' : World} {μ : Mu} {H : Heap}

theorem SR.blk (h : SR w μ H) {id ver b : Nat} (hl : μ.loc id = some (ver, some b)) : b < w.heap.size := by
  obtain ⟨⟨v, o⟩, ho⟩ := h.only id _ hl
  obtain ⟨l, hl', hor⟩ := h.has id v o ho
  rw [hl] at hl'
  cases hl'
  exact hor.lt

theorem Evo.grow (h : SR w μ H) (g : Grow w w') : Evo w μ w' μ where
  os := g.os
  tape := g.tape
  output := g.output
  size := g.size
  nx := Nat.le_refl _
  keep := fun b hb _ => g.old b hb
  loc := fun _ _ _ hl _ => hl
  row := fun id ver b hl _ cur e hr => ⟨cur, hr.of_heap (g.old b (h.blk hl)), rfl⟩
  own := fun id ver _ hl _ => ⟨id, ver, hl⟩
  held := rfl

theorem SR.grow (h : SR w μ H) (g : Grow w w') : SR w' μ H where
  ok := h.ok
  has := fun id ver o ho => by
    obtain ⟨l, hl, hor⟩ := h.has id ver o ho
    refine ⟨l, hl, hor.evo (Evo.grow h g) h.ok (fun b hb => ?_) (fun mid mver seen cur _ mb hm _ => g.old mb (h.blk hm))⟩
    subst hb
    exact g.old b hor.lt
  only := h.only
  inj := h.inj
  held := fun b hb => ⟨Nat.lt_of_lt_of_le (h.held b hb).1 g.size, (h.held b hb).2⟩

/-- the object of number id is laid anew: l is where it lies now -/
def Mu.set (μ : Mu) (id : Nat) (l : Option Nat) : Mu := { nx := μ.nx + 1, loc := fun j => if j = id then some (μ.nx, l) else μ.loc j, held := μ.held }

theorem Evo.repl (h : SR w μ H) (id : Nat) (l : Option Nat) (hs : Same w w') (hsz : w.heap.size ≤ w'.heap.size)
    (hold : ∀ b, b < w.heap.size → (∀ ver, μ.loc id ≠ some (ver, some b)) → w'.heap[b]? = w.heap[b]?)
    (hl : ∀ b, l = some b → w.heap.size ≤ b ∨ ∃ ver, μ.loc id = some (ver, some b)) : Evo w μ w' (μ.set id l) where
  os := hs.os
  tape := hs.tape
  output := hs.output
  size := hsz
  nx := Nat.le_succ _
  keep := fun b hb ho => hold b hb fun ver hv => ho ⟨id, ver, hv⟩
  loc := fun j ver b hj hv => by
    simp only [Mu.set] at hj
    split at hj
    · cases hj; omega
    · exact hj
  row := fun j ver b hj hv cur e hr => by
    simp only [Mu.set] at hj
    split at hj
    · cases hj; omega
    · rename_i hne
      exact ⟨cur, hr.of_heap (hold b (h.blk hj) fun v hv' => hne (h.inj _ _ _ _ _ hj hv')), rfl⟩
  own := fun j ver b hj hb => by
    simp only [Mu.set] at hj
    split at hj
    · cases hj
      rcases hl b rfl with h1 | ⟨v, h1⟩
      · omega
      · exact ⟨id, v, h1⟩
    · exact ⟨j, ver, hj⟩
  held := rfl

theorem SR.repl (h : SR w μ H) (id : Nat) (l : Option Nat) (o : AObj) (hs : Same w w') (hsz : w.heap.size ≤ w'.heap.size)
    (hold : ∀ b, b < w.heap.size → (∀ ver, μ.loc id ≠ some (ver, some b)) → w'.heap[b]? = w.heap[b]?)
    (hl : ∀ b, l = some b → w.heap.size ≤ b ∨ ∃ ver, μ.loc id = some (ver, some b)) (ho : OR w' (μ.set id l) o l) : SR w' (μ.set id l) (hset H id μ.nx o) where
  ok := fun j ver b hj => by
    simp only [Mu.set] at hj ⊢
    split at hj
    · cases hj; omega
    · have := h.ok j ver b hj; omega
  has := fun j ver o' hj => by
    rw [hget_hset] at hj
    split at hj
    · rename_i he
      cases hj
      exact ⟨l, by simp [Mu.set, he], ho⟩
    · rename_i hne
      obtain ⟨l', hl', hor⟩ := h.has j ver o' hj
      refine ⟨l', by simp [Mu.set, hne, hl'], hor.evo (Evo.repl h id l hs hsz hold hl) h.ok (fun b hb => ?_) (fun mid mver seen cur _ mb hm hm' => ?_)⟩
      · subst hb
        exact hold b hor.lt fun v hv => hne (h.inj _ _ _ _ _ hl' hv)
      · refine hold mb (h.blk hm) fun v hv => ?_
        have := h.inj _ _ _ _ _ hm hv
        subst this
        simp only [Mu.set, if_true] at hm'
        cases hm'
        have := h.ok _ _ _ hm
        omega
  only := fun j x hj => by
    rw [hget_hset]
    simp only [Mu.set] at hj
    split
    · exact ⟨_, rfl⟩
    · rename_i hne
      rw [if_neg hne] at hj
      exact h.only j x hj
  inj := fun i j v u b hi hj => by
    simp only [Mu.set] at hi hj
    split at hi <;> split at hj
    · rename_i e1 e2; rw [e1, e2]
    · rename_i e1 e2
      cases hi
      rcases hl b rfl with h1 | ⟨v', h1⟩
      · have := h.blk hj; omega
      · exact e1.trans (h.inj _ _ _ _ _ h1 hj)
    · rename_i e1 e2
      cases hj
      rcases hl b rfl with h1 | ⟨v', h1⟩
      · have := h.blk hi; omega
      · exact (h.inj _ _ _ _ _ hi h1).trans e2.symm
    · exact h.inj _ _ _ _ _ hi hj
  held := fun b hb => by
    obtain ⟨h1, h2⟩ := h.held b hb
    refine ⟨Nat.lt_of_lt_of_le h1 hsz, fun ⟨j, ver, hj⟩ => ?_⟩
    simp only [Mu.set] at hj
    split at hj
    · cases hj
      rcases hl b rfl with h3 | ⟨v, h3⟩
      · omega
      · exact h2 ⟨id, v, h3⟩
    · exact h2 ⟨j, ver, hj⟩

/-- an owned array's cells are written -/
theorem SR.updArr (h : SR w μ H) {id ver k b : Nat} {e : TypeId} {cs cs' : List HV} {cur cur' : Array Value} (hg : hget H id = some (ver, .arr k e cs)) (hl : μ.loc id = some (ver, some b))
    (hs : Same w w') (hsz : w'.heap.size = w.heap.size) (hold : ∀ b', b' ≠ b → w'.heap[b']? = w.heap[b']?) (hr : Row w b cur e) (hr' : Row w' b cur' e) (hc : cur'.size = cur.size)
    (ho : Evo w μ w' μ → OR w' μ (.arr k e cs') (some b)) : SR w' μ (hset H id ver (.arr k e cs')) ∧ Evo w μ w' μ := by
  have E : Evo w μ w' μ :=
    { os := hs.os, tape := hs.tape, output := hs.output, size := by omega, nx := Nat.le_refl _
      keep := fun b' _ hno => hold b' fun e => hno (e ▸ ⟨id, ver, hl⟩)
      loc := fun _ _ _ h _ => h
      row := fun j v b' hj _ c e' hrow => by
        by_cases he : b' = b
        · subst he
          obtain ⟨rfl, rfl⟩ := hrow.inj hr
          exact ⟨cur', hr', hc⟩
        · exact ⟨c, hrow.of_heap (hold b' he), rfl⟩
      own := fun j v b' hj _ => ⟨j, v, hj⟩
      held := rfl }
  refine ⟨⟨h.ok, fun j v o' hj => ?_, fun j x hj => ?_, h.inj, fun b' hb => ⟨by rw [hsz]; exact (h.held b' hb).1, (h.held b' hb).2⟩⟩, E⟩
  · rw [hget_hset] at hj
    split at hj
    · rename_i he
      subst he
      cases hj
      exact ⟨some b, hl, ho E⟩
    · rename_i hne
      obtain ⟨l', hl', hor⟩ := h.has j v o' hj
      refine ⟨l', hl', hor.evo E h.ok (fun b' hb => ?_) (fun mid mver seen cur' ho' mb hm _ => ?_)⟩
      · subst hb
        exact hold b' fun e' => hne (h.inj _ _ _ _ _ (e' ▸ hl') hl)
      · refine hold mb fun e' => ?_
        subst e'
        subst ho'
        cases l' with
        | none => exact hor.elim
        | some b' =>
          obtain ⟨_, mb', since, sn, last, _, h2⟩ := hor
          obtain ⟨he, ents, clock, h3, _⟩ := h2 _ hm
          cases he
          obtain ⟨lo, hi, h4, _⟩ := hr
          rw [h3] at h4
          cases h4
  · rw [hget_hset]
    split
    · exact ⟨_, rfl⟩
    · exact h.only j x hj
end

theorem Row.alloc (w : World) (cur : Array Value) (e : TypeId) : Row (w.alloc (.cells cur e)) w.heap.size cur e :=
  ⟨0, 0, by show (w.heap.push _)[w.heap.size]? = _; simp, .inl (Nat.le_refl _)⟩

/-- a new array -/
theorem SR.alloc {w : World} {μ : Mu} {H : Heap} (h : SR w μ H) (id k : Nat) (e : TypeId) {cs : List HV} {vs rest : List Value} (ho : ones cs) (hc : RepL w μ cs vs) :
    SR (w.alloc (.cells (vs ++ rest).toArray e)) (μ.set id (some w.heap.size)) (hset H id μ.nx (.arr k e cs)) ∧ Evo w μ (w.alloc (.cells (vs ++ rest).toArray e)) (μ.set id (some w.heap.size)) := by
  have g := Grow.alloc w (.cells (vs ++ rest).toArray e)
  have hE := Evo.repl h id (some w.heap.size) g.toSame g.size (fun b hb _ => g.old b hb) (fun b hb => by cases hb; exact .inl (Nat.le_refl _))
  refine ⟨h.repl id (some w.heap.size) _ g.toSame g.size (fun b hb _ => g.old b hb) (fun b hb => by cases hb; exact .inl (Nat.le_refl _)) ?_, hE⟩
  exact ⟨ho, (vs ++ rest).toArray, vs, rest, Row.alloc w _ e, by simp, RepL.evo hE h.ok _ _ hc⟩
end Go.AW
