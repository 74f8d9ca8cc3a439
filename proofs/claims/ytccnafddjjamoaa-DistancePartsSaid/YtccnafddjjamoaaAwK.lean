/- Contracts of functions that change nothing (Pure), how a caller uses them, and what is known of every value. -/
import Derived.Test.YtccnafddjjamoaaAwJ
namespace Go.AW
open Go

mutual
/-- a value that names no owned object -/
def clean : HV → Prop
  | .int _ _ | .bool _ | .str _ | .v _ => True
  | .agg cs | .tup cs | .sl _ _ cs | .fptr cs _ => cleanL cs
  | .fn _ fs cs => cleanL fs ∧ cleanL cs
  | .ar _ _ _ _ _ | .ptr _ _ _ | .mp _ _ | .yl _ _ | .it _ _ => False
def cleanL : List HV → Prop
  | [] => True
  | c :: cs => clean c ∧ cleanL cs
end

theorem cleanL_iff : ∀ {cs : List HV}, cleanL cs ↔ ∀ c ∈ cs, clean c
  | [] => by simp [cleanL]
  | c :: cs => by simp [cleanL, cleanL_iff (cs := cs)]

theorem cleanL_map {α : Type} {f : α → HV} {xs : List α} (h : ∀ x ∈ xs, clean (f x)) : cleanL (xs.map f) :=
  cleanL_iff.2 fun c hc => by obtain ⟨x, hx, rfl⟩ := List.mem_map.1 hc; exact h x hx

theorem cleanL_append {cs ds : List HV} : cleanL (cs ++ ds) ↔ cleanL cs ∧ cleanL ds := by
  simp only [cleanL_iff, List.mem_append]
  exact ⟨fun h => ⟨fun c hc => h c (.inl hc), fun c hc => h c (.inr hc)⟩, fun h c hc => hc.elim (h.1 c) (h.2 c)⟩

mutual
/-- what is known of every value that occurs -/
def fact : HV → Prop
  | .int k n => (Lit.int k n).wf = true
  | .str l => l.length ≤ maxLen
  | .agg cs | .tup cs | .fptr cs _ => factL cs
  | .sl k n cs => n ≤ maxLen ∧ cs.length = n * k ∧ factL cs
  | _ => True
def factL : List HV → Prop
  | [] => True
  | c :: cs => fact c ∧ factL cs
end

theorem factL_iff : ∀ {cs : List HV}, factL cs ↔ ∀ c ∈ cs, fact c
  | [] => by simp [factL]
  | c :: cs => by simp [factL, factL_iff (cs := cs)]

mutual
theorem Rep.fact {w : World} {μ : Mu} : ∀ (hv : HV) (val : Value), Rep w μ hv val → AW.fact hv
  | .int _ _, _, h => h.2
  | .bool _, _, _ => trivial
  | .str _, _, h => h.2
  | .v _, _, _ => trivial
  | .agg cs, _, ⟨_, vs, _, h⟩ => RepL.fact cs vs h
  | .tup cs, _, ⟨vs, _, h⟩ => RepL.fact cs vs h
  | .sl _ _ [], _, ⟨_, hl, hm, _⟩ => ⟨hm, hl, trivial⟩
  | .sl _ _ (c :: cs), _, ⟨_, hl, hm, h⟩ => ⟨hm, hl, by
    rcases h with ⟨h0, _⟩ | ⟨b, off, cap, vs, _, _, _, _, h⟩
    · subst h0; simp at hl
    · exact RepL.fact (c :: cs) vs h⟩
  | .fptr cs _, _, ⟨_, b, base, vs, _, _, _, h⟩ => RepL.fact cs vs h
  | .fn _ _ _, _, _ => trivial
  | .ar _ _ _ _ _, _, _ => trivial
  | .ptr _ _ _, _, _ => trivial
  | .mp _ _, _, _ => trivial
  | .yl _ _, _, _ => trivial
  | .it _ _, _, _ => trivial
theorem RepL.fact {w : World} {μ : Mu} : ∀ (cs : List HV) (vs : List Value), RepL w μ cs vs → factL cs
  | [], _, _ => trivial
  | c :: cs, _, ⟨x, xs, _, h1, h2⟩ => ⟨Rep.fact c x h1, RepL.fact cs xs h2⟩
end

section
variable {P : Program} {ro : Option Nat} {N : Nat} {s s' : AS} {Q : Exit → AS → Prop}

theorem AW.fact {c : Code} {t : Nat} {hv : HV} (h : sget s.slots t = some hv) (k : AW.fact hv → AW P ro N c Q s) : AW P ro N c Q s :=
  fun w0 μ0 μ a w hs hE => k (Rep.fact hv _ (hs.slot t hv h).2) w0 μ0 μ a w hs hE

theorem AW.factO {c : Code} {id ver k : Nat} {e : TypeId} {cs : List HV} (h : hget s.heap id = some (ver, .arr k e cs)) (k : factL cs → AW P ro N c Q s) : AW P ro N c Q s := by
  intro w0 μ0 μ a w hs hE
  refine k ?_ w0 μ0 μ a w hs hE
  obtain ⟨l, _, hor⟩ := hs.sr.has id ver _ h
  cases l with
  | none => have : cs = [] := hor; subst this; trivial
  | some b => obtain ⟨_, cur, vs, rest, _, _, hr⟩ := hor; exact RepL.fact cs vs hr
end

theorem ACall.facts {P : Program} {f : FuncId} {args : List HV} {H : Heap} {K : HV → Heap → Prop} (he : Enters' P f) (h : factL args → ACall P f args H K) : ACall P f args H K :=
  ⟨he, fun μ w vs hs hr => (h (RepL.fact args vs hr)).2 μ w vs hs hr⟩

/-- THE CONTRACT OF A FUNCTION THAT CHANGES NOTHING: frozen arguments, a frozen result -/
def Pure (P : Program) (f : FuncId) (args : List HV) (R : HV → Prop) : Prop := ACall P f args [] fun r H' => R r ∧ clean r ∧ H' = []

/-- every owned object is another's -/
def Mu.hide (μ : Mu) : Mu := { nx := μ.nx, loc := fun _ => none, held := fun b => μ.owns b }

theorem hide_owns (μ : Mu) (b : Nat) : μ.hide.owns b ↔ μ.owns b :=
  ⟨fun h => h.elim (fun ⟨_, _, h⟩ => by cases h) id, fun h => .inr h⟩

theorem hide_dead {μ : Mu} (hok : μ.ok) {id ver : Nat} {l : Option Nat} (h : μ.loc id = some (ver, l)) : μ.hide.dead id ver := ⟨hok _ _ _ h, fun b hb => by cases hb⟩
theorem hide_dead' {μ : Mu} {id ver : Nat} (h : μ.dead id ver) : μ.hide.dead id ver := ⟨h.1, fun b hb => by cases hb⟩

mutual
theorem Rep.hide {w : World} {μ : Mu} (hok : μ.ok) : ∀ (hv : HV) (val : Value), Rep w μ hv val → Rep w μ.hide hv val
  | .int _ _, _, h => h
  | .bool _, _, h => h
  | .str _, _, h => h
  | .v _, _, h => h
  | .agg cs, _, ⟨h1, vs, e, h⟩ => ⟨h1, vs, e, RepL.hide hok cs vs h⟩
  | .tup cs, _, ⟨vs, e, h⟩ => ⟨vs, e, RepL.hide hok cs vs h⟩
  | .sl _ _ cs, _, ⟨h1, hl, hm, h⟩ => ⟨h1, hl, hm, h.imp id fun ⟨b, off, cap, vs, e, hn, ho, hs, hr⟩ =>
      ⟨b, off, cap, vs, e, hn, fun h => ho ((hide_owns μ b).1 h), hs, RepL.hide hok cs vs hr⟩⟩
  | .ar _ _ _ _ _, _, h => by
    rcases h with ⟨l, hl, ⟨_, rfl, _⟩ | ⟨b, cap, cur, e, _, rfl, _⟩⟩ | ⟨hd, h⟩
    · exact .inr ⟨hide_dead hok hl, _, _, _, rfl⟩
    · exact .inr ⟨hide_dead hok hl, _, _, _, rfl⟩
    · exact .inr ⟨hide_dead' hd, h⟩
  | .ptr _ _ _, _, h => by
    rcases h with ⟨b, hl, rfl⟩ | ⟨hd, h⟩
    · exact .inr ⟨hide_dead hok hl, _, rfl⟩
    · exact .inr ⟨hide_dead' hd, h⟩
  | .fptr cs _, _, ⟨h1, b, base, vs, e, ho, hs, hr⟩ => ⟨h1, b, base, vs, e, fun h => ho ((hide_owns μ b).1 h), hs, RepL.hide hok cs vs hr⟩
  | .fn _ fs cs, _, ⟨us, vs, e, h1, h2⟩ => ⟨us, vs, e, RepL.hide hok fs us h1, RepL.hide hok cs vs h2⟩
  | .mp _ _, _, h => by
    rcases h with ⟨b, hl, rfl⟩ | ⟨hd, h⟩
    · exact .inr ⟨hide_dead hok hl, _, rfl⟩
    · exact .inr ⟨hide_dead' hd, h⟩
  | .yl _ _, _, h => by
    rcases h with ⟨b, hl, rfl⟩ | ⟨hd, h⟩
    · exact .inr ⟨hide_dead hok hl, _, rfl⟩
    · exact .inr ⟨hide_dead' hd, h⟩
  | .it _ _, _, h => by
    rcases h with ⟨b, hl, rfl⟩ | ⟨hd, h⟩
    · exact .inr ⟨hide_dead hok hl, _, rfl⟩
    · exact .inr ⟨hide_dead' hd, h⟩
theorem RepL.hide {w : World} {μ : Mu} (hok : μ.ok) : ∀ (cs : List HV) (vs : List Value), RepL w μ cs vs → RepL w μ.hide cs vs
  | [], _, h => h
  | c :: cs, _, ⟨x, xs, e, h1, h2⟩ => ⟨x, xs, e, Rep.hide hok c x h1, RepL.hide hok cs xs h2⟩
end

mutual
/-- a clean value hangs on nothing but which blocks are owned -/
theorem Rep.clean {w : World} {μ μ' : Mu} (ho : ∀ b, μ'.owns b → μ.owns b) : ∀ (hv : HV) (val : Value), AW.clean hv → Rep w μ hv val → Rep w μ' hv val
  | .int _ _, _, _, h => h
  | .bool _, _, _, h => h
  | .str _, _, _, h => h
  | .v _, _, _, h => h
  | .agg cs, _, hc, ⟨h1, vs, e, h⟩ => ⟨h1, vs, e, RepL.clean ho cs vs hc h⟩
  | .tup cs, _, hc, ⟨vs, e, h⟩ => ⟨vs, e, RepL.clean ho cs vs hc h⟩
  | .sl _ _ cs, _, hc, ⟨h1, hl, hm, h⟩ => ⟨h1, hl, hm, h.imp id fun ⟨b, off, cap, vs, e, hn, hno, hs, hr⟩ => ⟨b, off, cap, vs, e, hn, fun h => hno (ho b h), hs, RepL.clean ho cs vs hc hr⟩⟩
  | .fptr cs _, _, hc, ⟨h1, b, base, vs, e, hno, hs, hr⟩ => ⟨h1, b, base, vs, e, fun h => hno (ho b h), hs, RepL.clean ho cs vs hc hr⟩
  | .fn _ fs cs, _, hc, ⟨us, vs, e, h1, h2⟩ => ⟨us, vs, e, RepL.clean ho fs us hc.1 h1, RepL.clean ho cs vs hc.2 h2⟩
  | .ar _ _ _ _ _, _, hc, _ => hc.elim
  | .ptr _ _ _, _, hc, _ => hc.elim
  | .mp _ _, _, hc, _ => hc.elim
  | .yl _ _, _, hc, _ => hc.elim
  | .it _ _, _, hc, _ => hc.elim
theorem RepL.clean {w : World} {μ μ' : Mu} (ho : ∀ b, μ'.owns b → μ.owns b) : ∀ (cs : List HV) (vs : List Value), cleanL cs → RepL w μ cs vs → RepL w μ' cs vs
  | [], _, _, h => h
  | c :: cs, _, hc, ⟨x, xs, e, h1, h2⟩ => ⟨x, xs, e, Rep.clean ho c x hc.1 h1, RepL.clean ho cs xs hc.2 h2⟩
end

/-- A CALLER USES A PURE CONTRACT: the objects D are frozen for good, H' stay. -/
theorem ACall.pure {P : Program} {f : FuncId} {args args' : List HV} {H : Heap} {K : HV → Heap → Prop} {R : HV → Prop} (n : Nat) (D H' : Heap) (hp : Pure P f args' R) (hs' : ∀ id x, hget H' id = some x → hget H id = some x)
    (hD : ∀ id x, hget D id = some x → hget H id = some x ∧ hget H' id = none) (ha : args.map (frz n D) = args') (hK : ∀ r, R r → K r H') : ACall P f args H K := by
  refine ⟨hp.1, fun μ w vs hs hr => ?_⟩
  have hsub := hs.sub hs'
  have hfr : RepL w (μ.cut H') args' vs := by rw [← ha]; exact RepL.mapF (fun c x _ => frz_rep hs hD n c x) hr
  have h0 : SR w (μ.cut H').hide [] :=
    ⟨(fun _ _ _ h => by cases h), (fun _ _ _ h => by cases h), (fun _ _ h => by cases h), (fun _ _ _ _ _ h => by cases h), (fun b hb => ⟨hb.elim (fun ⟨_, _, hl⟩ => hsub.blk hl) (fun h => (hsub.held b h).1), fun ⟨_, _, hl⟩ => by cases hl⟩)⟩
  refine (hp.2 (μ.cut H').hide w vs h0 (RepL.hide hsub.ok _ _ hfr)).mono ?_
  rintro e w' ⟨v, r, H1, μ1, rfl, ⟨hR, hcl, rfl⟩, hs1, hr1, E⟩
  have g : Grow w w' := ⟨⟨E.os, E.tape, E.output⟩, E.size, fun b hb => E.keep b hb fun ⟨_, _, hl⟩ => by cases hl⟩
  have hsg := hsub.grow g
  have hEg := Evo.grow hsub g
  refine ⟨v, r, H', { nx := max (μ.cut H').nx μ1.nx, loc := (μ.cut H').loc, held := (μ.cut H').held }, rfl, hK r hR, ?_, ?_, ?_⟩
  · refine ⟨fun id ver b h => Nat.lt_of_lt_of_le (hsg.ok id ver b h) (Nat.le_max_left _ _), fun id ver o ho => ?_, hsg.only, hsg.inj, hsg.held⟩
    obtain ⟨l, hl, hor⟩ := hsg.has id ver o ho
    refine ⟨l, hl, hor.evo (μ' := { nx := max (μ.cut H').nx μ1.nx, loc := (μ.cut H').loc, held := (μ.cut H').held }) ?_ hsg.ok (fun _ _ => rfl) (fun _ _ _ _ _ _ _ _ => rfl)⟩
    exact ⟨rfl, rfl, rfl, Nat.le_refl _, Nat.le_max_left _ _, fun _ _ _ => rfl, fun _ _ _ h _ => h, fun _ _ _ _ _ cur _ h => ⟨cur, h, rfl⟩, fun id ver _ h _ => ⟨id, ver, h⟩, rfl⟩
  · refine Rep.clean (fun b hb => ?_) r v hcl hr1
    right
    rw [E.held]
    exact hb
  · refine ((Evo.cut w μ H').trans hEg).trans ?_
    exact ⟨rfl, rfl, rfl, Nat.le_refl _, Nat.le_max_left _ _, fun _ _ _ => rfl, fun _ _ _ h _ => h, fun _ _ _ _ _ cur _ h => ⟨cur, h, rfl⟩, fun id ver _ h _ => ⟨id, ver, h⟩, rfl⟩

/-- the usual case: the arguments name no owned object -/
theorem ACall.pure0 {P : Program} {f : FuncId} {args : List HV} {H : Heap} {K : HV → Heap → Prop} {R : HV → Prop} (hp : Pure P f args R) (hK : ∀ r, R r → K r H) : ACall P f args H K :=
  ACall.pure 0 [] H hp (fun _ _ h => h) (fun _ _ h => by cases h) (by simp [frz]) hK

theorem ACallD.pure0 {P : Program} {f : FuncId} {args : List HV} {H : Heap} {hv : HV} (hp : Pure P f args (· = hv)) : ACallD P f args H hv :=
  ACall.pure0 hp fun _ h => ⟨h, rfl⟩

/-- a pure contract from the body -/
theorem Pure.of_body {P : Program} {f : FuncId} {fn : Func} {c : Code} {args : List HV} {R : HV → Prop} (hf : P.funcs[f]? = some fn) (hname : (fn.name == "runtime.NumGoroutine") = false)
    (hb : fn.body = some c) (hN : args.length ≤ fn.ntmps) (h : factL args → AW P none fn.ntmps c (retQ P fn.results.toList fun r H' => R r ∧ clean r ∧ H' = []) { slots := enumS 0 args, heap := [] }) : Pure P f args R :=
  ACall.facts (enters' hf hname hb) fun hfact => ACall.of_body hf hname hb hN (h hfact)

theorem Pure.mono {P : Program} {f : FuncId} {args : List HV} {R R' : HV → Prop} (h : Pure P f args R) (hr : ∀ r, R r → R' r) : Pure P f args R' :=
  ACall.mono h fun _ _ ⟨h1, h2⟩ => ⟨hr _ h1, h2⟩
end Go.AW
