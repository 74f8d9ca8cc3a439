/- Calls: contracts over abstract values (ACall), a function's contract from its body, what freezing does, and contracts of functions that change nothing (Pure). -/
import Derived.Test.YtccnafddjjamoaaAwD
namespace Go.AW
open Go

def Enters' (P : Program) (f : FuncId) : Prop := ∀ (as : Array Value) (w : World), (callFunc f as).run P w = .ok (.enter f as) w

theorem enters' {P : Program} {f : FuncId} {fn : Func} {c : Code} (hf : P.funcs[f]? = some fn) (hname : (fn.name == "runtime.NumGoroutine") = false) (hb : fn.body = some c) : Enters' P f := by
  intro args w
  have h1 : fn.name ≠ "runtime.NumGoroutine" := by simpa using hname
  simp [callFunc, hf, h1, hb]

/-- what a call comes to: a value and the objects behind it -/
def CallPost (K : HV → Heap → Prop) (w : World) (μ : Mu) (e : Ending) (w' : World) : Prop :=
  ∃ v r H' μ', e = .returned v ∧ K r H' ∧ SR w' μ' H' ∧ Rep w' μ' r v ∧ Evo w μ w' μ'

/-- THE CONTRACT OF A FUNCTION: called with what the arguments stand for it returns; K says what, and what the owned objects are then. -/
def ACall (P : Program) (f : FuncId) (args : List HV) (H : Heap) (K : HV → Heap → Prop) : Prop :=
  Enters' P f ∧ ∀ μ w vs, SR w μ H → RepL w μ args vs → Calls P f vs.toArray w (CallPost K w μ)

theorem ACall.mono {P : Program} {f : FuncId} {args : List HV} {H : Heap} {K K' : HV → Heap → Prop} (h : ACall P f args H K) (hk : ∀ r H', K r H' → K' r H') : ACall P f args H K' :=
  ⟨h.1, fun μ w vs hs hr => (h.2 μ w vs hs hr).mono fun _ _ ⟨v, r, H', μ', e, k, rest⟩ => ⟨v, r, H', μ', e, hk _ _ k, rest⟩⟩

/-! ### Freezing: an object that nobody will write any more -/
def frz : Nat → Heap → HV → HV
  | 0, _, h => h
  | n + 1, D, h => match h with
    | .agg cs => .agg (cs.map (frz n D))
    | .tup cs => .tup (cs.map (frz n D))
    | .fn f fs cs => .fn f (fs.map (frz n D)) (cs.map (frz n D))
    | .ar id ver k off m => match hget D id with
      | some (ver', .arr _ _ cs) => if ver = ver' ∧ off + m * k ≤ cs.length then .sl k m (((cs.drop off).take (m * k)).map (frz n D)) else .ar id ver k off m
      | _ => .ar id ver k off m
    | .ptr id ver off => match hget D id with
      | some (ver', .arr _ _ cs) => if ver = ver' then .fptr (cs.map (frz n D)) off else .ptr id ver off
      | _ => .ptr id ver off
    | h => h

theorem frz_one (n : Nat) (D : Heap) (h : HV) : (frz n D h).one = h.one := by
  cases n with
  | zero => rfl
  | succ n =>
    cases h with
    | ar id ver k off m => simp only [frz]; split <;> (try split) <;> rfl
    | ptr id ver off => simp only [frz]; split <;> (try split) <;> rfl
    | _ => rfl

theorem ones_frz {n : Nat} {D : Heap} {cs : List HV} (h : ones cs) : ones (cs.map (frz n D)) := by
  intro c hc
  obtain ⟨d, hd, rfl⟩ := List.mem_map.1 hc
  rw [frz_one]; exact h d hd

theorem RepL.mapF {w : World} {μ μ' : Mu} {f : HV → HV} : ∀ {cs : List HV} {vs : List Value}, (∀ c x, c ∈ cs → Rep w μ c x → Rep w μ' (f c) x) → RepL w μ cs vs → RepL w μ' (cs.map f) vs
  | [], _, _, h => h
  | c :: cs, _, hf, ⟨x, xs, e, h1, h2⟩ => ⟨x, xs, e, hf c x (List.mem_cons_self ..) h1, RepL.mapF (fun d y hd => hf d y (List.mem_cons_of_mem _ hd)) h2⟩

theorem frz_rep {w : World} {μ : Mu} {H D H' : Heap} (hs : SR w μ H) (hD : ∀ id x, hget D id = some x → hget H id = some x ∧ hget H' id = none) (n : Nat) :
    ∀ (h : HV) (v : Value), Rep w μ h v → Rep w (μ.cut H') (frz n D h) v := by
  induction n with
  | zero => exact fun h v hr => Rep.evo (Evo.cut w μ H') hs.ok h v hr
  | succ n ih =>
    intro h v hr
    have hl : ∀ {cs : List HV} {vs : List Value}, RepL w μ cs vs → RepL w (μ.cut H') (cs.map (frz n D)) vs := fun hc => RepL.mapF (fun c x _ => ih c x) hc
    have keep : Rep w (μ.cut H') h v := Rep.evo (Evo.cut w μ H') hs.ok h v hr
    cases h with
    | agg cs => exact ⟨ones_frz hr.1, hr.2.imp fun vs h => ⟨h.1, hl h.2⟩⟩
    | tup cs => exact hr.imp fun vs h => ⟨h.1, hl h.2⟩
    | fn f fs cs =>
      obtain ⟨us, vs, e, h1, h2⟩ := hr
      exact ⟨us, vs, e, hl h1, hl h2⟩
    | ar id ver k off m =>
      simp only [frz]
      split
      · rename_i ver' k' e' cs hg
        split
        · rename_i hc
          obtain ⟨rfl, hlen⟩ := hc
          obtain ⟨hgH, hgn⟩ := hD id _ hg
          obtain ⟨l, hloc, hor⟩ := hs.has id _ _ hgH
          rcases hr with ⟨l', hl', hr⟩ | ⟨hd, _⟩
          · rw [hloc] at hl'
            cases hl'
            rcases hr with ⟨rfl, rfl, rfl, rfl⟩ | ⟨b, cap, cur, e, rfl, rfl, hn, hc, hrow, hsz⟩
            · refine ⟨by simp [ones], by simp, by simp, .inl ⟨rfl, rfl⟩⟩
            · obtain ⟨h1, cur', vs, rest, hrow', hcl, hrl⟩ := hor
              obtain ⟨rfl, rfl⟩ := hrow.inj hrow'
              have hvl := hrl.length
              refine ⟨ones_frz ((h1.drop off).take _), ?_, by omega, .inr ⟨b, off, cap, (vs.drop off).take (m * k), rfl, hn, ?_, ?_, hl ((hrl.drop off).take _)⟩⟩
              · rw [List.length_map, List.length_take, List.length_drop]; omega
              · rintro (⟨id', v', h'⟩ | hh')
                · have h'' := Mu.cut_some h'
                  have := hs.inj _ _ _ _ _ h'' hloc
                  subst this
                  simp only [Mu.cut, hgn] at h'
                  simp at h'
                · exact (hs.held b hh').2 ⟨id, _, hloc⟩
              · obtain ⟨lo, hi, hh, _⟩ := hrow
                have hseg : Seg w b 0 vs := ⟨cur, e, (lo, hi), [], rest, hh, by simpa using hcl, rfl⟩
                have := (hseg.drop off (by omega)).take (m * k)
                rwa [Nat.zero_add] at this
          · exact absurd hloc (hd.2 l)
        · exact keep
      · exact keep
    | ptr id ver off =>
      simp only [frz]
      split
      · rename_i ver' k' e' cs hg
        split
        · rename_i hc
          subst hc
          obtain ⟨hgH, hgn⟩ := hD id _ hg
          obtain ⟨l, hloc, hor⟩ := hs.has id _ _ hgH
          rcases hr with ⟨b, hl', rfl⟩ | ⟨hd, _⟩
          · rw [hloc] at hl'
            cases hl'
            obtain ⟨h1, cur', vs, rest, ⟨lo, hi, hh, _⟩, hcl, hrl⟩ := hor
            refine ⟨ones_frz h1, b, 0, vs, by rw [Nat.zero_add], ?_, ⟨cur', e', (lo, hi), [], rest, hh, by simpa using hcl, rfl⟩, hl hrl⟩
            rintro (⟨id', v', h'⟩ | hh')
            · have h'' := Mu.cut_some h'
              have := hs.inj _ _ _ _ _ h'' hloc
              subst this
              simp only [Mu.cut, hgn] at h'
              simp at h'
            · exact (hs.held b hh').2 ⟨id, _, hloc⟩
          · exact absurd hloc (hd.2 l)
        · exact keep
      · exact keep
    | _ => exact keep

/-! ### A function's contract from its body -/
def resOne (P : Program) (s : AS) (rv : ResultVar) (R : HV → Prop) : Prop :=
  match rv with
  | .tmp t => match sget s.slots t with
    | some h => R h
    | none => False
  | .cell t ty' => match ty P ty', sget s.slots t with
    | some T, some (.fptr cs off) => loadK T cs off R
    | some T, some (.ptr id ver off) => match hget s.heap id with
      | some (ver', .arr _ _ cs) => ver = ver' ∧ loadK T cs off R
      | _ => False
    | _, _ => False

def resAll (P : Program) (s : AS) : List ResultVar → (List HV → Prop) → Prop
  | [], R => R []
  | rv :: rvs, R => resOne P s rv fun h => resAll P s rvs fun hs => R (h :: hs)

def joinR : List HV → HV
  | [h] => h
  | hs => .tup hs

/-- from the results and objects at the return to those that the caller is told of: dropping, freezing, saying less -/
def Conv (H : Heap) (r0 r : HV) (H' : Heap) : Prop := ∀ w μ v, SR w μ H → Rep w μ r0 v → ∃ μ', SR w μ' H' ∧ Rep w μ' r v ∧ Evo w μ w μ'

def retQ (P : Program) (rvs : List ResultVar) (K : HV → Heap → Prop) (e : Exit) (s : AS) : Prop :=
  (e = .normal ∨ e = .ret) ∧ resAll P s rvs fun hs => ∃ r H', Conv s.heap (joinR hs) r H' ∧ K r H'

theorem Conv.drop {H : Heap} {r : HV} {H' : Heap} (hs : ∀ id x, hget H' id = some x → hget H id = some x) : Conv H r r H' :=
  fun w μ v h hr => ⟨μ.cut H', h.sub hs, Rep.evo (Evo.cut w μ H') h.ok r v hr, Evo.cut w μ H'⟩

theorem Conv.refl (H : Heap) (r : HV) : Conv H r r H := Conv.drop fun _ _ h => h

theorem Conv.frz {H : Heap} {r0 : HV} {H' : Heap} (n : Nat) (D : Heap) (hs : ∀ id x, hget H' id = some x → hget H id = some x)
    (hD : ∀ id x, hget D id = some x → hget H id = some x ∧ hget H' id = none) : Conv H r0 (frz n D r0) H' :=
  fun w μ v h hr => ⟨μ.cut H', h.sub hs, frz_rep h hD n r0 v hr, Evo.cut w μ H'⟩

theorem Conv.all {H : Heap} {r0 : HV} (n : Nat) : Conv H r0 (AW.frz n H r0) [] :=
  Conv.frz n H (fun _ _ h => by cases h) fun _ _ h => ⟨h, rfl⟩

/-- a nil slice is an empty one -/
def weak : HV → HV
  | .v (.slice none 0 0) => .sl 1 0 []
  | .tup hs => .tup (hs.map fun h => match h with
    | .v (.slice none 0 0) => .sl 1 0 []
    | h => h)
  | h => h

theorem rep_nil_sl {w : World} {μ : Mu} {v : Value} (k : Nat) (h : Rep w μ (.v (.slice none 0 0)) v) : Rep w μ (.sl k 0 []) v :=
  ⟨ones.nil, by simp, by simp, .inl ⟨rfl, h⟩⟩

theorem Conv.trans {H H1 H2 : Heap} {r0 r1 r2 : HV} (h : Conv H r0 r1 H1) (h' : Conv H1 r1 r2 H2) : Conv H r0 r2 H2 := by
  intro w μ v hs hr
  obtain ⟨μ1, hs1, hr1, E1⟩ := h w μ v hs hr
  obtain ⟨μ2, hs2, hr2, E2⟩ := h' w μ1 v hs1 hr1
  exact ⟨μ2, hs2, hr2, E1.trans E2⟩

/-- what says less of a value -/
inductive Le : HV → HV → Prop
  | refl (h : HV) : Le h h
  | nil (k : Nat) : Le (.v (.slice none 0 0)) (.sl k 0 [])
  | empty (k k' : Nat) : Le (.sl k 0 []) (.sl k' 0 [])

inductive LeL : List HV → List HV → Prop
  | nil : LeL [] []
  | cons {a b : HV} {as bs : List HV} (h : Le a b) (h' : LeL as bs) : LeL (a :: as) (b :: bs)

theorem Le.rep {w : World} {μ : Mu} {a b : HV} (h : Le a b) {v : Value} (hr : Rep w μ a v) : Rep w μ b v := by
  cases h with
  | refl => exact hr
  | nil k => exact rep_nil_sl k hr
  | empty k k' =>
    obtain ⟨h1, h2, h3, h4⟩ := hr
    exact ⟨ones.nil, by simp, h3, h4.imp id fun ⟨b, off, cap, vs, e, hn, ho, hs, hr⟩ => ⟨b, off, cap, vs, e, hn, ho, hs, hr⟩⟩

theorem LeL.rep {w : World} {μ : Mu} : ∀ {as bs : List HV} (_ : LeL as bs) {vs : List Value}, RepL w μ as vs → RepL w μ bs vs
  | _, _, .nil, _, h => h
  | _, _, .cons h h', _, ⟨x, xs, e, h1, h2⟩ => ⟨x, xs, e, h.rep h1, LeL.rep h' h2⟩

theorem Conv.le {H : Heap} {a b : HV} (h : Le a b) : Conv H a b H := fun w μ _ hs hr => ⟨μ, hs, h.rep hr, Evo.refl w μ⟩
theorem Conv.leL {H : Heap} {as bs : List HV} (h : LeL as bs) : Conv H (.tup as) (.tup bs) H :=
  fun w μ _ hs ⟨vs, e, hr⟩ => ⟨μ, hs, ⟨vs, e, h.rep hr⟩, Evo.refl w μ⟩

def resSem (tmps : Array Value) (rv : ResultVar) : Sem Value :=
  match rv with
  | .tmp t => pure (tmps.getD t undef)
  | .cell x t => do loadVar t (← asAddr (tmps.getD x undef))

theorem resAll_run {P : Program} {ro : Option Nat} {N B : Nat} {s : AS} {μ : Mu} {a : Act} {w : World} (hs : SRel ro N B μ s a w) :
    ∀ (rvs : List ResultVar) (R : List HV → Prop), resAll P s rvs R → ∃ vs hvs, (rvs.mapM (resSem a.tmps)).run P w = .ok vs w ∧ R hvs ∧ RepL w μ hvs vs
  | [], R, h => ⟨[], [], by simp, h, rfl⟩
  | rv :: rvs, R, h => by
    have one : ∃ v hv, (resSem a.tmps rv).run P w = .ok v w ∧ (resAll P s rvs fun hs => R (hv :: hs)) ∧ Rep w μ hv v := by
      simp only [resAll] at h
      cases rv with
      | tmp t =>
        simp only [resOne] at h
        split at h
        · rename_i hv ht
          exact ⟨_, hv, rfl, h, (hs.slot t hv ht).2⟩
        · exact h.elim
      | cell x t =>
        simp only [resOne] at h
        split at h
        · rename_i T cs off hT hx
          obtain ⟨h0, b, base, vs, he, _, hsg, hl⟩ := (hs.slot x _ hx).2
          obtain ⟨v, hv, h1, h2, h3⟩ := run_loadVar_seg hT hsg h0 hl off h
          exact ⟨v, hv, by simp only [resSem, Sem.run_bind]; rw [he]; simp [asAddr, h1], h2, h3⟩
        · rename_i T id ver off hT hx
          split at h
          · rename_i ver' k e cs hg
            obtain ⟨rfl, h⟩ := h
            obtain ⟨b, hl, he, hor⟩ := hs.live (hs.slot x _ hx).2 hg
            obtain ⟨h0, vs, hsg, hcl⟩ := hor.seg
            obtain ⟨v, hv, h1, h2, h3⟩ := run_loadVar_seg hT hsg h0 hcl off h
            rw [Nat.zero_add] at h1
            exact ⟨v, hv, by simp only [resSem, Sem.run_bind]; rw [he]; simp [asAddr, h1], h2, h3⟩
          · exact h.elim
        · exact h.elim
    obtain ⟨v, hv, h1, h2, h3⟩ := one
    obtain ⟨vs, hvs, h4, h5, h6⟩ := resAll_run hs rvs _ h2
    refine ⟨v :: vs, hv :: hvs, ?_, h5, v, vs, rfl, h3, h6⟩
    rw [List.mapM_cons]
    simp only [Sem.run_bind, h1, Result.andThen_ok, h4, Sem.run_pure]

theorem results_run {P : Program} {ro : Option Nat} {N B : Nat} {s : AS} {μ : Mu} {a : Act} {w : World} (hs : SRel ro N B μ s a w) (fn : Func) {R : List HV → Prop} (h : resAll P s fn.results.toList R) :
    ∃ v hvs, (results fn a.tmps).run P w = .ok v w ∧ R hvs ∧ Rep w μ (joinR hvs) v := by
  obtain ⟨vs, hvs, h1, h2, h3⟩ := resAll_run hs _ _ h
  have hlen := h3.length
  have hr : (results fn a.tmps).run P w = .ok (if h : vs.toArray.size = 1 then vs.toArray[0] else .tuple vs.toArray) w := by
    have : results fn a.tmps = (do
      let vs ← fn.results.mapM (resSem a.tmps)
      pure (if h : vs.size = 1 then vs[0] else .tuple vs)) := by
      unfold results
      congr 1
    rw [this, Array.mapM_eq_mapM_toList]
    simp only [Sem.run_bind, Sem.run_map, h1, Result.andThen_ok, Sem.run_pure]
  refine ⟨_, hvs, hr, h2, ?_⟩
  match hvs, vs, hlen, h3 with
  | [], vs, hlen, h3 =>
    simp at hlen
    subst hlen
    exact ⟨[], by simp, h3⟩
  | [c], vs, hlen, h3 =>
    obtain ⟨x, xs, rfl, hx, hn⟩ := h3
    simp only [RepL] at hn
    subst hn
    simpa [joinR] using hx
  | c :: d :: hvs, vs, hlen, h3 =>
    have hne : vs.toArray.size ≠ 1 := by simp [hlen]
    rw [dif_neg hne]
    exact ⟨vs, rfl, h3⟩

theorem takeDeferred_run {P : Program} {w : World} {r : Nat} (h : w.heap[r]? = some (.deferred (some []))) :
    (Instr.takeDeferred r).run P w = .ok [] { w with heap := w.heap.setIfInBounds r (.deferred none) } := by
  simp [Instr.takeDeferred, getObj, setObj, Sem.run, h]

theorem set_other {w : World} {r b : Nat} (o : Obj) (h : b ≠ r) : ({ w with heap := w.heap.setIfInBounds r o } : World).heap[b]? = w.heap[b]? := by
  show (w.heap.setIfInBounds r o)[b]? = _
  rw [Array.getElem?_setIfInBounds, if_neg (fun e => h e.symm)]


/-- the world is as it was but for blocks that hold a frame's deferred calls -/
def Calm (w w' : World) : Prop := ∀ b : Nat, (∀ x, w.heap[b]? ≠ some (Obj.deferred x)) → w'.heap[b]? = w.heap[b]?

theorem Seg.calm {w w' : World} (h : Calm w w') {b off : Nat} {vs : List Value} (hs : Seg w b off vs) : Seg w' b off vs := by
  obtain ⟨cur, e, fr, pre, post, h1, h2, h3⟩ := hs
  exact ⟨cur, e, fr, pre, post, (h b (fun x hx => by rw [h1] at hx; cases hx)).trans h1, h2, h3⟩

theorem Row.calm {w w' : World} (h : Calm w w') {b : Nat} {cur : Array Value} {e : TypeId} (hr : Row w b cur e) : Row w' b cur e := by
  obtain ⟨lo, hi, h1, h2⟩ := hr
  exact ⟨lo, hi, (h b (fun x hx => by rw [h1] at hx; cases hx)).trans h1, h2⟩

mutual
theorem Rep.calm {w w' : World} {μ : Mu} (hc : Calm w w') : ∀ (hv : HV) (val : Value), Rep w μ hv val → Rep w' μ hv val
  | .int _ _, _, h => h
  | .bool _, _, h => h
  | .str _, _, h => h
  | .v _, _, h => h
  | .agg cs, _, ⟨h1, vs, e, h⟩ => ⟨h1, vs, e, RepL.calm hc cs vs h⟩
  | .tup cs, _, ⟨vs, e, h⟩ => ⟨vs, e, RepL.calm hc cs vs h⟩
  | .sl _ _ cs, _, ⟨h1, hl, hm, h⟩ => ⟨h1, hl, hm, h.imp id fun ⟨b, off, cap, vs, e, hn, ho, hs, hr⟩ => ⟨b, off, cap, vs, e, hn, ho, hs.calm hc, RepL.calm hc cs vs hr⟩⟩
  | .ar _ _ _ _ _, _, h => h.imp (fun ⟨l, hl, h⟩ => ⟨l, hl, h.imp id fun ⟨b, cap, cur, e, h1, h2, h3, h4, h5, h6⟩ => ⟨b, cap, cur, e, h1, h2, h3, h4, h5.calm hc, h6⟩⟩) id
  | .ptr _ _ _, _, h => h
  | .fptr cs _, _, ⟨h1, b, base, vs, e, ho, hs, hr⟩ => ⟨h1, b, base, vs, e, ho, hs.calm hc, RepL.calm hc cs vs hr⟩
  | .fn _ fs cs, _, ⟨us, vs, e, h1, h2⟩ => ⟨us, vs, e, RepL.calm hc fs us h1, RepL.calm hc cs vs h2⟩
  | .mp _ _, _, h => h
  | .yl _ _, _, h => h
  | .it _ _, _, h => h
theorem RepL.calm {w w' : World} {μ : Mu} (hc : Calm w w') : ∀ (cs : List HV) (vs : List Value), RepL w μ cs vs → RepL w' μ cs vs
  | [], _, h => h
  | c :: cs, _, ⟨x, xs, e, h1, h2⟩ => ⟨x, xs, e, Rep.calm hc c x h1, RepL.calm hc cs xs h2⟩
end

theorem OR.calm {w w' : World} {μ : Mu} (hc : Calm w w') {o : AObj} {l : Option Nat} (h : OR w μ o l) : OR w' μ o l := by
  have hb : ∀ {b : Nat} {o' : Obj}, w.heap[b]? = some o' → (∀ x, o' ≠ .deferred x) → w'.heap[b]? = some o' := fun {b o'} h1 h2 =>
    (hc b (fun x hx => by rw [h1] at hx; cases hx; exact h2 x rfl)).trans h1
  cases l with
  | none => cases o <;> exact h
  | some b =>
    cases o with
    | arr k e cs =>
      obtain ⟨h0, cur, vs, rest, h1, h2, h3⟩ := h
      exact ⟨h0, cur, vs, rest, h1.calm hc, h2, RepL.calm hc _ _ h3⟩
    | map es =>
      obtain ⟨ents, clock, h1, h2, h3, h4, h5⟩ := h
      exact ⟨ents, clock, hb h1 (fun x hx => by cases hx), h2, RepL.calm hc _ _ h3, h4, h5⟩
    | iter mid mver seen cur =>
      obtain ⟨h0, mb, since, sn, last, h1, h2⟩ := h
      refine ⟨h0, mb, since, sn, last, hb h1 (fun x hx => by cases hx), fun l hl => ?_⟩
      obtain ⟨e, ents, clock, h3, h4⟩ := h2 l hl
      exact ⟨e, ents, clock, hb h3 (fun x hx => by cases hx), h4⟩
    | loop st pend f n snap ps assign body =>
      obtain ⟨tmps, dfr, h1, h2, h3⟩ := h
      exact ⟨tmps, dfr, hb h1 (fun x hx => by cases hx), h2, fun t hv ht => ⟨(h3 t hv ht).1, Rep.calm hc _ _ (h3 t hv ht).2⟩⟩

theorem SR.calm {w w' : World} {μ : Mu} {H : Heap} (hc : Calm w w') (hz : w'.heap.size = w.heap.size) (h : SR w μ H) : SR w' μ H :=
  ⟨h.ok, fun id ver o ho => let ⟨l, hl, hor⟩ := h.has id ver o ho; ⟨l, hl, hor.calm hc⟩, h.only, h.inj, fun b hb => ⟨by rw [hz]; exact (h.held b hb).1, (h.held b hb).2⟩⟩

theorem leaves_marks {P : Program} {ro : Option Nat} {fn : Func} {tmps : Array Value} {R : Ending → World → Prop} :
    ∀ (rs : List Nat) (w : World), rs.Nodup → (∀ r ∈ rs, w.heap[r]? = some (.deferred (some []))) →
      (∀ w', Calm w w' → Same w w' → w'.heap.size = w.heap.size → (∀ b : Nat, b ∉ rs → w'.heap[b]? = w.heap[b]?) → ∃ v, (results fn tmps).run P w' = .ok v w' ∧ R (.returned v) w') →
      LeavesInM (fence ro) 0 P fn tmps R (rs.map fun r => { target := .collected r, args := #[] }) .returning w
  | [], w, _, _, h => h w (fun _ _ => rfl) (Same.refl w) rfl (fun _ _ => rfl)
  | r :: rs, w, hn, hh, h => by
    have hr := hh r (List.mem_cons_self ..)
    have hnd := List.nodup_cons.1 hn
    refine ⟨by simp, .inl ⟨r, _, rfl, takeDeferred_run hr, ?_⟩⟩
    refine leaves_marks rs _ hnd.2 (fun x hx => ?_) fun w' hc hs hz ho => ?_
    · rw [set_other _ (fun e => hnd.1 (by rw [← e]; exact hx))]
      exact hh x (List.mem_cons_of_mem _ hx)
    · have hoth : ∀ b, b ≠ r → ({ w with heap := w.heap.setIfInBounds r (.deferred none) } : World).heap[b]? = w.heap[b]? := fun b hb => set_other _ hb
      refine h w' (fun b hb => ?_) ⟨hs.os, hs.tape, hs.output⟩ (by rw [hz]; simp) (fun b hb => ?_)
      · have hbr : b ≠ r := fun e => hb _ (e ▸ hr)
        rw [hc b (fun x hx => hb x (by rw [← hoth b hbr]; exact hx)), hoth b hbr]
      · simp only [List.mem_cons, not_or] at hb
        rw [ho b hb.2, hoth b hb.1]

def enumS : Nat → List HV → List (Nat × HV)
  | _, [] => []
  | i, h :: hs => (i, h) :: enumS (i + 1) hs

theorem sget_enumS : ∀ (hs : List HV) (i t : Nat), sget (enumS i hs) t = if i ≤ t then hs[t - i]? else none
  | [], i, t => by simp [enumS, sget]
  | h :: hs, i, t => by
    simp only [enumS, sget, sget_enumS hs (i + 1) t]
    by_cases h1 : t = i
    · subst h1; simp
    · rw [if_neg h1]
      by_cases h2 : i ≤ t
      · rw [if_pos h2, if_pos (by omega)]
        obtain ⟨d, rfl⟩ : ∃ d, t = i + 1 + d := ⟨t - i - 1, by omega⟩
        rw [show i + 1 + d - (i + 1) = d by omega, show i + 1 + d - i = d + 1 by omega, List.getElem?_cons_succ]
      · rw [if_neg h2, if_neg (by omega)]

/-- A CONTRACT FROM THE BODY. -/
theorem ACall.of_body {P : Program} {f : FuncId} {fn : Func} {c : Code} {args : List HV} {H : Heap} {K : HV → Heap → Prop} (hf : P.funcs[f]? = some fn) (hname : (fn.name == "runtime.NumGoroutine") = false)
    (hb : fn.body = some c) (hN : args.length ≤ fn.ntmps) (h : AW P none fn.ntmps c (retQ P fn.results.toList K) { slots := enumS 0 args, heap := H }) : ACall P f args H K := by
  refine ⟨enters' hf hname hb, fun μ w vs hs hr => ?_⟩
  have hvl := hr.length
  refine (callsIn_wide (n := 0)).1 (callsIn_of_wp_marks (F := fence none) hf hb trivial ?_ rfl)
  have hs0 : SRel none fn.ntmps w.heap.size μ { slots := enumS 0 args, heap := H } { tmps := vs.toArray ++ Array.replicate (fn.ntmps - vs.toArray.size) undef, defers := [] } w := by
    refine ⟨by simp; omega, hs, fun t hv ht => ?_, Marks.nil _ _ _, trivial⟩
    rw [sget_enumS] at ht
    simp only [Nat.zero_le, if_true, Nat.sub_zero] at ht
    obtain ⟨x, hx, hrep⟩ := hr.get ht
    have hlt : t < vs.length := (List.getElem?_eq_some_iff.1 hx).1
    refine ⟨by omega, ?_⟩
    have : (vs.toArray ++ Array.replicate (fn.ntmps - vs.toArray.size) undef).getD t undef = x := by
      rw [Array.getD_eq_getD_getElem?, Array.getElem?_append_left (by simpa using hlt)]
      simp [hx]
    rw [this]
    exact hrep
  refine wpIn_mono (h w μ μ _ w hs0 (Evo.refl w μ)) ?_
  rintro e a' w' ⟨h1, h2, μ', s', ⟨he, hret⟩, h4, h5⟩
  have key : LeavesInM (fence none) 0 P fn a'.tmps (CallPost K w μ) a'.defers .returning w' := by
    obtain ⟨rs, hd, hnd, hrs⟩ := h4.marks
    rw [hd]
    refine leaves_marks rs w' hnd (fun r hr => (hrs r hr).2.1) fun w2 hc hsame hsz hoth => ?_
    have hs2 : SRel none fn.ntmps w.heap.size μ' s' { a' with defers := [] } w2 :=
      ⟨h4.size, h4.sr.calm hc hsz, fun t hv ht => ⟨(h4.slot t hv ht).1, Rep.calm hc _ _ (h4.slot t hv ht).2⟩, Marks.nil _ _ _, trivial⟩
    obtain ⟨v, hvs, hv1, ⟨r, H', hconv, hK⟩, hv3⟩ := results_run hs2 fn hret
    refine ⟨v, hv1, ?_⟩
    obtain ⟨μ2, hsr2, hrep2, E2⟩ := hconv w2 μ' v hs2.sr hv3
    have E1 : Evo w μ w2 μ' :=
      { os := hsame.os.trans h5.os, tape := hsame.tape.trans h5.tape, output := hsame.output.trans h5.output, size := by rw [hsz]; exact h5.size, nx := h5.nx
        keep := fun b hb hno => by
          rw [hoth b (fun hm => by have := (hrs b hm).1; omega)]
          exact h5.keep b hb hno
        loc := h5.loc
        row := fun id ver b hl hv cur e hrow => by
          obtain ⟨cur', h6, h7⟩ := h5.row id ver b hl hv cur e hrow
          exact ⟨cur', h6.calm hc, h7⟩
        own := h5.own, held := h5.held }
    exact ⟨v, r, H', μ2, rfl, hK, hsr2, hrep2, E1.trans E2⟩
  rcases he with rfl | rfl
  · exact key
  · exact key
end Go.AW
