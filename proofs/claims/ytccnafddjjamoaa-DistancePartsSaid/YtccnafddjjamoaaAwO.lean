/- A call that only reads: the caller lends all that it owns. -/
import Derived.Test.YtccnafddjjamoaaAwQ
import Derived.Test.YtccnafddjjamoaaAwP
namespace Go.AW
open Go

mutual
/-- no frozen parts -/
def nf : HV → Bool
  | .agg cs | .tup cs => nfL cs
  | .fn _ fs cs => nfL fs && nfL cs
  | .sl _ _ _ | .fptr _ _ => false
  | _ => true
def nfL : List HV → Bool
  | [] => true
  | c :: cs => nf c && nfL cs
end
def nfE : List (List UInt8 × HV) → Bool
  | [] => true
  | (_, h) :: l => nf h && nfE l
def nfO : AObj → Bool
  | .arr _ _ cs => nfL cs
  | .map es => nfE es
  | .iter _ _ _ _ => true
  | .loop _ _ _ _ _ _ _ _ => false
def nfH : Heap → Bool
  | [] => true
  | (_, _, o) :: l => nfO o && nfH l

section
variable {w : World} {μ μ' : Mu}
theorem Mu.dead_of (hl : μ'.loc = μ.loc) (hn : μ'.nx = μ.nx) {id ver : Nat} (h : μ.dead id ver) : μ'.dead id ver := by
  unfold Mu.dead at h ⊢
  rw [hl, hn]; exact h

mutual
theorem Rep.nf (hl : μ'.loc = μ.loc) (hn : μ'.nx = μ.nx) : ∀ (hv : HV) (val : Value), AW.nf hv = true → Rep w μ hv val → Rep w μ' hv val
  | .int _ _, _, _, h => h
  | .bool _, _, _, h => h
  | .str _, _, _, h => h
  | .v _, _, _, h => h
  | .agg cs, _, hc, ⟨h1, vs, e, h⟩ => ⟨h1, vs, e, RepL.nf hl hn cs vs hc h⟩
  | .tup cs, _, hc, ⟨vs, e, h⟩ => ⟨vs, e, RepL.nf hl hn cs vs hc h⟩
  | .sl _ _ _, _, hc, _ => by cases hc
  | .fptr _ _, _, hc, _ => by cases hc
  | .fn _ fs cs, _, hc, ⟨us, vs, e, h1, h2⟩ => by
    simp only [AW.nf, Bool.and_eq_true] at hc
    exact ⟨us, vs, e, RepL.nf hl hn fs us hc.1 h1, RepL.nf hl hn cs vs hc.2 h2⟩
  | .ar _ _ _ _ _, _, _, h => by
    rcases h with ⟨l, h1, h2⟩ | ⟨hd, h⟩
    · exact .inl ⟨l, by rw [hl]; exact h1, h2⟩
    · exact .inr ⟨Mu.dead_of hl hn hd, h⟩
  | .ptr _ _ _, _, _, h => by
    rcases h with ⟨l, h1, h2⟩ | ⟨hd, h⟩
    · exact .inl ⟨l, by rw [hl]; exact h1, h2⟩
    · exact .inr ⟨Mu.dead_of hl hn hd, h⟩
  | .mp _ _, _, _, h => by
    rcases h with ⟨l, h1, h2⟩ | ⟨hd, h⟩
    · exact .inl ⟨l, by rw [hl]; exact h1, h2⟩
    · exact .inr ⟨Mu.dead_of hl hn hd, h⟩
  | .yl _ _, _, _, h => by
    rcases h with ⟨l, h1, h2⟩ | ⟨hd, h⟩
    · exact .inl ⟨l, by rw [hl]; exact h1, h2⟩
    · exact .inr ⟨Mu.dead_of hl hn hd, h⟩
  | .it _ _, _, _, h => by
    rcases h with ⟨l, h1, h2⟩ | ⟨hd, h⟩
    · exact .inl ⟨l, by rw [hl]; exact h1, h2⟩
    · exact .inr ⟨Mu.dead_of hl hn hd, h⟩
theorem RepL.nf (hl : μ'.loc = μ.loc) (hn : μ'.nx = μ.nx) : ∀ (cs : List HV) (vs : List Value), nfL cs = true → RepL w μ cs vs → RepL w μ' cs vs
  | [], _, _, h => h
  | c :: cs, _, hc, ⟨x, xs, e, h1, h2⟩ => by
    simp only [nfL, Bool.and_eq_true] at hc
    exact ⟨x, xs, e, Rep.nf hl hn c x hc.1 h1, RepL.nf hl hn cs xs hc.2 h2⟩
end

theorem nfE_map : ∀ {es : List (List UInt8 × HV)}, nfE es = true → nfL (es.map (·.2)) = true
  | [], _ => rfl
  | (_, h) :: es, hh => by
    simp only [nfE, Bool.and_eq_true] at hh
    simp only [List.map_cons, nfL, hh.1, nfE_map hh.2, Bool.and_self]

theorem OR.nf (hl : μ'.loc = μ.loc) (hn : μ'.nx = μ.nx) {o : AObj} (hc : nfO o = true) {l : Option Nat} (h : OR w μ o l) : OR w μ' o l := by
  cases l with
  | none => cases o <;> exact h
  | some b =>
    cases o with
    | arr k e cs =>
      obtain ⟨h0, cur, vs, rest, h1, h2, h3⟩ := h
      exact ⟨h0, cur, vs, rest, h1, h2, RepL.nf hl hn _ _ hc h3⟩
    | map es =>
      obtain ⟨ents, clock, h1, h2, h3, h4, h5⟩ := h
      exact ⟨ents, clock, h1, h2, RepL.nf hl hn _ _ (nfE_map hc) h3, h4, h5⟩
    | iter mid mver seen cur =>
      obtain ⟨h0, mb, since, sn, last, h1, h2⟩ := h
      refine ⟨by rw [hn]; exact h0, mb, since, sn, last, h1, fun l hl' => h2 l (by rw [← hl]; exact hl')⟩
    | loop st pend f n snap ps assign body => cases hc

theorem nfH_get : ∀ {H : Heap}, nfH H = true → ∀ {id v : Nat} {o : AObj}, hget H id = some (v, o) → nfO o = true
  | [], _, _, _, _, h => by cases h
  | (i, w, p) :: H, hn, id, v, o, h => by
    simp only [nfH, Bool.and_eq_true] at hn
    simp only [hget] at h
    split at h
    · cases h; exact hn.1
    · exact nfH_get hn.2 h
end

/-- THE CALLER LENDS ALL THAT IT OWNS to a function that writes none of it and gives back nothing of it. -/
theorem ACall.lend {P : Program} {f : FuncId} {args : List HV} {H : Heap} {K : HV → Heap → Prop} {q : HV} (n m : Nat) (hp : ACall P f (args.map (frz n H)) [] K)
    (hK : ∀ r H', K r H' → nf r = true ∧ nfH H' = true ∧ frz m H' r = q) (hq : clean q) : ACallD P f args H q := by
  refine ⟨hp.1, fun μ w vs hs hr => ?_⟩
  have hfr : RepL w (μ.cut []) (args.map (frz n H)) vs := RepL.mapF (fun c x _ => frz_rep (H' := []) hs (fun id x h => ⟨h, rfl⟩) n c x) hr
  have h0 : SR w (μ.cut []) [] := hs.sub fun _ _ h => by cases h
  have hno : ∀ b, ¬ (μ.cut []).owned b := fun b ⟨id, ver, hl⟩ => by simp [Mu.cut, hget] at hl
  refine (hp.2 (μ.cut []) w vs h0 hfr).mono ?_
  rintro e w' ⟨v, r, H1, μ1, rfl, hk, hs1, hr1, E⟩
  obtain ⟨hnf, hnfH, rfl⟩ := hK r H1 hk
  have g : Grow w w' := ⟨⟨E.os, E.tape, E.output⟩, E.size, fun b hb => E.keep b hb (hno b)⟩
  have hsg := hs.grow g
  have hEg := Evo.grow hs g
  refine ⟨v, frz m H1 r, H, { nx := max μ.nx μ1.nx, loc := μ.loc, held := μ.held }, rfl, ⟨rfl, rfl⟩, ?_, ?_, ?_⟩
  · refine ⟨fun id ver b h => Nat.lt_of_lt_of_le (hsg.ok id ver b h) (Nat.le_max_left _ _), fun id ver o ho => ?_, hsg.only, hsg.inj, hsg.held⟩
    obtain ⟨l, hl, hor⟩ := hsg.has id ver o ho
    refine ⟨l, hl, hor.evo (μ' := { nx := max μ.nx μ1.nx, loc := μ.loc, held := μ.held }) ?_ hsg.ok (fun _ _ => rfl) (fun _ _ _ _ _ _ _ _ => rfl)⟩
    exact ⟨rfl, rfl, rfl, Nat.le_refl _, Nat.le_max_left _ _, fun _ _ _ => rfl, fun _ _ _ h _ => h, fun _ _ _ _ _ cur _ h => ⟨cur, h, rfl⟩, fun id ver _ h _ => ⟨id, ver, h⟩, rfl⟩
  · -- the result's blocks are new
    let μ2 : Mu := { nx := μ1.nx, loc := μ1.loc, held := fun b => b < w.heap.size }
    have hs2 : SR w' μ2 H1 := by
      refine ⟨hs1.ok, fun id ver o ho => ?_, hs1.only, hs1.inj, fun b hb => ⟨Nat.lt_of_lt_of_le hb E.size, fun ⟨id, ver, hl⟩ => ?_⟩⟩
      · obtain ⟨l, hl, hor⟩ := hs1.has id ver o ho
        exact ⟨l, hl, OR.nf (μ := μ1) (μ' := μ2) rfl rfl (nfH_get hnfH ho) hor⟩
      · exact hno b (E.own id ver b hl hb)
    have h3 := frz_rep (D := H1) (H' := []) hs2 (fun id x h => ⟨h, rfl⟩) m r v (Rep.nf (μ := μ1) (μ' := μ2) rfl rfl r v hnf hr1)
    refine Rep.clean (fun b hb => ?_) _ v hq h3
    right
    show b < w.heap.size
    exact hb.elim (fun ⟨_, _, hl⟩ => hs.blk hl) (fun h => (hs.held b h).1)
  · exact hEg.trans ⟨rfl, rfl, rfl, Nat.le_refl _, Nat.le_max_left _ _, fun _ _ _ => rfl, fun _ _ _ h _ => h, fun _ _ _ _ _ cur _ h => ⟨cur, h, rfl⟩, fun id ver _ h _ => ⟨id, ver, h⟩, rfl⟩

/-- A FUNCTION THAT CHANGES NOTHING AND GIVES BACK NOTHING OF ITS ARGUMENTS: its result, frozen, is q. -/
def Fresh (P : Program) (f : FuncId) (args : List HV) (q : HV) : Prop := clean q ∧ ∃ (K : HV → Heap → Prop) (m : Nat), ACall P f args [] K ∧ ∀ r H', K r H' → nf r = true ∧ nfH H' = true ∧ frz m H' r = q

/-- a caller uses it, whatever it owns -/
theorem Fresh.callD {P : Program} {f : FuncId} {args as' : List HV} {H : Heap} {q : HV} (n : Nat) (h : Fresh P f as' q) (ha : args.map (frz n H) = as') : ACallD P f args H q := by
  obtain ⟨hq, K, m, hp, hK⟩ := h
  subst ha
  exact ACall.lend n m hp hK hq

theorem Fresh.call {P : Program} {f : FuncId} {args as' : List HV} {H : Heap} {q : HV} {K : HV → Heap → Prop} (n : Nat) (h : Fresh P f as' q) (ha : args.map (frz n H) = as') (hk : K q H) : ACall P f args H K :=
  ACall.mono (h.callD n ha) fun _ _ ⟨h1, h2⟩ => by rw [h1, h2]; exact hk

theorem frz_nf (m : Nat) : ∀ (h : HV), clean h → nf h = true → frz m [] h = h := by
  induction m with
  | zero => intro h _ _; rfl
  | succ m ih =>
    have ihL : ∀ cs : List HV, cleanL cs → nfL cs = true → cs.map (frz m []) = cs := by
      intro cs
      induction cs with
      | nil => intros; rfl
      | cons c cs ihc =>
        intro hc hn
        simp only [nfL, Bool.and_eq_true] at hn
        simp only [List.map_cons, ih c hc.1 hn.1, ihc hc.2 hn.2]
    intro h hc hn
    cases h with
    | agg cs => simp only [frz, ihL cs hc hn]
    | tup cs => simp only [frz, ihL cs hc hn]
    | fn f fs cs =>
      simp only [AW.nf, Bool.and_eq_true] at hn
      simp only [frz, ihL fs hc.1 hn.1, ihL cs hc.2 hn.2]
    | ar _ _ _ _ _ => exact hc.elim
    | ptr _ _ _ => exact hc.elim
    | _ => rfl

/-- a pure contract with a flat result -/
theorem Pure.fresh {P : Program} {f : FuncId} {args : List HV} {q : HV} (h : Pure P f args (· = q)) (hc : clean q) (hn : nf q = true) : Fresh P f args q :=
  ⟨hc, _, 1, h, fun r H' ⟨h1, _, h3⟩ => by subst h1 h3; exact ⟨hn, rfl, frz_nf 1 r hc hn⟩⟩

theorem Fresh.pure {P : Program} {f : FuncId} {args : List HV} {q : HV} (h : Fresh P f args q) : Pure P f args (· = q) := by
  obtain ⟨hq, K, m, hp, hK⟩ := h
  refine ⟨hp.1, fun μ w vs hs hr => (hp.2 μ w vs hs hr).mono ?_⟩
  rintro e w' ⟨v, r, H', μ', he, k, hs', hr', E⟩
  obtain ⟨_, _, h3⟩ := hK r H' k
  obtain ⟨μ2, h4, h5, h6⟩ := Conv.all (r0 := r) m w' μ' v hs' hr'
  exact ⟨v, _, [], μ2, he, ⟨h3, h3 ▸ hq, rfl⟩, h4, h5, E.trans h6⟩

/-- from the body -/
theorem Fresh.of_body {P : Program} {f : FuncId} {fn : Func} {c : Code} {args : List HV} {q : HV} (m : Nat) (hf : P.funcs[f]? = some fn) (hname : (fn.name == "runtime.NumGoroutine") = false)
    (hb : fn.body = some c) (hN : args.length ≤ fn.ntmps) (hq : clean q)
    (h : factL args → AW P none fn.ntmps c (retQ P fn.results.toList fun r H' => nf r = true ∧ nfH H' = true ∧ frz m H' r = q) { slots := enumS 0 args, heap := [] }) : Fresh P f args q :=
  ⟨hq, _, m, ACall.facts (enters' hf hname hb) fun hfact => ACall.of_body hf hname hb hN (h hfact), fun _ _ h => h⟩
end Go.AW
