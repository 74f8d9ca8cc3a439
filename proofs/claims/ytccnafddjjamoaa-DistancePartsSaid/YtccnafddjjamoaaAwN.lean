/- Ranges over functions, and the calls of yield within them. -/
import Derived.Test.YtccnafddjjamoaaAwM
import Derived.RangeFuncIn
namespace Go.AW
open Go

def setPs (snap : List (Nat × HV)) : List Tmp → List HV → List (Nat × HV)
  | p :: ps, h :: hs => setPs (sset snap p h) ps hs
  | _, _ => snap

/-- what is asked at a round's end -/
def rndQ (id ver f n : Nat) (snap : List (Nat × HV)) (ps : Array Tmp) (assign body : Code) (K : HV → Heap → Prop) (e : Exit) (s : AS) : Prop :=
  hget s.heap id = some (ver, .loop .busy none f n snap ps assign body) ∧ match e with
  | .normal => K (.bool true) (hset s.heap id ver (.loop .ready none f n snap ps assign body))
  | .ret => K (.bool false) (hset s.heap id ver (.loop .done (some .ret) f n snap ps assign body))
  | .exit i => K (.bool false) (hset s.heap id ver (.loop .done (some (.exit i)) f n snap ps assign body))
  | _ => False

/-- A CALL OF YIELD: a round of the loop, from this heap -/
def YCall (P : Program) (id ver : Nat) (hs : List HV) (H : Heap) (K : HV → Heap → Prop) : Prop :=
  ∃ f n snap ps assign body, hget H id = some (ver, .loop .ready none f n snap ps assign body) ∧ ps.size = hs.length ∧ (∀ p ∈ ps.toList, p < n) ∧
    ∀ l, AW P (some l) n assign (fun e s1 => e = .normal ∧ hget s1.heap id = some (ver, .loop .ready none f n snap ps assign body) ∧
      AW P (some l) n body (rndQ id ver f n snap ps assign body K) { s1 with heap := hset s1.heap id ver (.loop .busy none f n snap ps assign body) }) { slots := setPs snap ps.toList hs, heap := H }

section
variable {P : Program} {ro : Option Nat} {N : Nat} {s : AS} {w w' : World} {μ : Mu} {H : Heap}

theorem setPs_rep : ∀ (ps : List Tmp) (hs : List HV) (vs : List Value) (snap : List (Nat × HV)) (tmps : Array Value) (n : Nat), ps.length = hs.length → (∀ p ∈ ps, p < n) → tmps.size = n → RepL w μ hs vs →
    (∀ t hv, sget snap t = some hv → t < n ∧ Rep w μ hv (tmps.getD t undef)) →
    ((ps.zip vs).foldl (fun tmps (x : Tmp × Value) => tmps.setIfInBounds x.1 x.2) tmps).size = n ∧
      ∀ t hv, sget (setPs snap ps hs) t = some hv → t < n ∧ Rep w μ hv (((ps.zip vs).foldl (fun tmps (x : Tmp × Value) => tmps.setIfInBounds x.1 x.2) tmps).getD t undef)
  | [], [], vs, snap, tmps, n, _, _, hz, hr, h => by
    cases hr
    exact ⟨hz, h⟩
  | p :: ps, h :: hs, vs, snap, tmps, n, hl, hp, hz, hr, hh => by
    obtain ⟨x, xs, rfl, h1, h2⟩ := hr
    simp only [List.zip_cons_cons, List.foldl_cons, setPs]
    refine setPs_rep ps hs xs (sset snap p h) _ n (by simpa using hl) (fun q hq => hp q (List.mem_cons_of_mem _ hq)) (by simpa using hz) h2 fun t hv ht => ?_
    have hpn := hp p (List.mem_cons_self ..)
    rw [sget_sset] at ht
    split at ht
    · rename_i e
      subst e
      cases ht
      refine ⟨hpn, ?_⟩
      rw [Array.getD_eq_getD_getElem?, Array.getElem?_setIfInBounds_self_of_lt (by rw [hz]; exact hpn)]
      exact h1
    · rename_i e
      obtain ⟨h3, h4⟩ := hh t hv ht
      refine ⟨h3, ?_⟩
      rw [Array.getD_eq_getD_getElem?, Array.getElem?_setIfInBounds_ne (fun e' => e e'.symm), ← Array.getD_eq_getD_getElem?]
      exact h4
  | [], _ :: _, _, _, _, _, hl, _, _, _, _ => by simp at hl
  | _ :: _, [], _, _, _, _, hl, _, _, _, _ => by simp at hl

/-- a loop's record turns -/
theorem SR.updLoop (h : SR w μ H) {id ver b : Nat} {st st' : LoopState} {pend pend' : Option Code} {f n : Nat} {snap : List (Nat × HV)} {ps : Array Tmp} {assign body : Code}
    (hg : hget H id = some (ver, .loop st pend f n snap ps assign body)) (hl : μ.loc id = some (ver, some b)) :
    ∃ tmps dfr, w.heap[b]? = some (.loop { state := st, pending := pend, fn := f, tmps := tmps, params := ps, assign := assign, body := body, defers := dfr }) ∧ tmps.size = n ∧
      (∀ t hv, sget snap t = some hv → t < n ∧ Rep w μ hv (tmps.getD t undef)) ∧
      let w' : World := { w with heap := w.heap.setIfInBounds b (.loop { state := st', pending := pend', fn := f, tmps := tmps, params := ps, assign := assign, body := body, defers := dfr }) }
      SR w' μ (hset H id ver (.loop st' pend' f n snap ps assign body)) ∧ Evo w μ w' μ := by
  obtain ⟨l, hl', hor⟩ := h.has id ver _ hg
  rw [hl] at hl'
  cases hl'
  obtain ⟨tmps, dfr, hb, hz, hs⟩ := hor
  have hlt : b < w.heap.size := (Array.getElem?_eq_some_iff.1 hb).1
  refine ⟨tmps, dfr, hb, hz, hs, ?_⟩
  intro w'
  have hb' : w'.heap[b]? = some (.loop { state := st', pending := pend', fn := f, tmps := tmps, params := ps, assign := assign, body := body, defers := dfr }) := by
    simp [w', hlt]
  have hold : ∀ b', b' ≠ b → w'.heap[b']? = w.heap[b']? := fun b' hb' => by
    simp only [w']
    rw [Array.getElem?_setIfInBounds_ne (fun e => hb' e.symm)]
  refine h.upd hg (fun cur e hr => ?_) hl ⟨rfl, rfl, rfl⟩ (by simp [w']) hold (fun E => ⟨tmps, dfr, hb', hz, fun t hv ht => ⟨(hs t hv ht).1, Rep.evo E h.ok _ _ (hs t hv ht).2⟩⟩) fun E j v mv sn' cu l hj hor' hlb => ?_
  · obtain ⟨lo, hi, hc, _⟩ := hr
    rw [hb] at hc
    cases hc
  · cases l with
    | none => exact hor'.elim
    | some b2 =>
      obtain ⟨h0, mb2, si2, sn2, la2, h2, h3⟩ := hor'
      refine ⟨h0, mb2, si2, sn2, la2, (hold b2 (fun e => hlb (by rw [e]))).trans h2, fun l' hl' => ?_⟩
      obtain ⟨rfl, ents, clock, h4, _⟩ := h3 l' hl'
      rw [hl] at hl'
      cases hl'
      rw [hb] at h4
      cases h4

theorem run_getLoop {l : Nat} {r : Loop} (h : w.heap[l]? = some (.loop r)) : (Instr.getLoop l).run P w = .ok r w := by
  simp [Instr.getLoop, getObj, Sem.run, h, Result.andThen]
theorem run_setLoop {l : Nat} {r r' : Loop} (h : w.heap[l]? = some (.loop r)) : (setObj l (.loop r')).run P w = .ok () { w with heap := w.heap.setIfInBounds l (.loop r') } := by
  simp [setObj, Sem.run, h]

theorem SRel.heap {B : Nat} {a : Act} (hs : SRel ro N B μ s a w) {μ' : Mu} {H' : Heap} (E : Evo w μ w' μ') (hsr : SR w' μ' H') : SRel ro N B μ' { s with heap := H' } a w' :=
  ⟨hs.size, hsr, fun t hv ht => ⟨(hs.slot t hv ht).1, Rep.evo E hs.sr.ok _ _ (hs.slot t hv ht).2⟩, hs.marks.evo E, hs.ro.evo E⟩

theorem AOp.yield {o : Oper} {K : AS → Prop} {c : Call} {g : Operand} {id ver : Nat} {hs : List HV} (hop : o.op = .call c) (hc : c.callee = .value g) (hN : okd N o.dst = true)
    (hg : s.ev g = some (.yl id ver)) (ha : c.args.toList.mapM s.ev = some hs) (h : YCall P id ver hs s.heap fun r H' => K (({ s with heap := H' } : AS).put o.dst r)) : AOp P ro N o K s := by
  intro w0 μ0 μ a w next Q hsr hE hK
  refine ⟨fun f _ => trivial, ?_⟩
  rw [Oper.semAt_eq _ _ _ (fun c e => by rw [hop] at e; cases e)]
  obtain ⟨f, n, snap, ps, assign, body, hgl, hps, hpn, hround⟩ := h
  have hvs := mapM_ev hsr ha
  obtain ⟨l0, hl0, hor0⟩ := hsr.sr.has id ver _ hgl
  have hlive : ∃ l, μ.loc id = some (ver, some l) ∧ a.eval g = .func (.yield l) #[] #[] := by
    rcases hsr.ev hg with ⟨b, hb, hv⟩ | ⟨hd, _⟩
    · exact ⟨b, hb, hv⟩
    · exact absurd hl0 (hd.2 l0)
  obtain ⟨l, hl, hv⟩ := hlive
  rw [hl] at hl0
  cases hl0
  obtain ⟨tmps, dfr, hb, hz, hsn⟩ := hor0
  have hvl := hvs.length
  have hrun : (execOp a.eval o).run P w = .ok (.round l f ((ps.zip (c.args.map a.eval)).foldl (fun tmps (x : Tmp × Value) => tmps.setIfInBounds x.1 x.2) tmps) assign body) w := by
    have hlen : c.args.size = ps.size := by
      have h1 : hs.length = (c.args.toList.map a.eval).length := hvl.symm
      simp only [List.length_map, Array.length_toList] at h1
      omega
    simp [execOp, hop, resolve, hc, hv, Deferred.ofValue, invoke, Instr.yield, run_getLoop hb, hlen, Result.andThen]
  rw [hrun]
  refine ⟨fun hd => absurd (fence_depth ro hd) (by omega), ?_⟩
  obtain ⟨hsz, hslot⟩ := setPs_rep ps.toList hs (c.args.toList.map a.eval) snap tmps n (by simpa using hps) hpn hz hvs hsn
  have htm : (ps.zip (c.args.map a.eval)).foldl (fun tmps (x : Tmp × Value) => tmps.setIfInBounds x.1 x.2) tmps = (ps.toList.zip (c.args.toList.map a.eval)).foldl (fun tmps (x : Tmp × Value) => tmps.setIfInBounds x.1 x.2) tmps := by
    rw [← Array.foldl_toList]
    simp
  rw [htm]
  have hs0 : SRel (some l) n w.heap.size μ { slots := setPs snap ps.toList hs, heap := s.heap } { tmps := (ps.toList.zip (c.args.toList.map a.eval)).foldl (fun tmps (x : Tmp × Value) => tmps.setIfInBounds x.1 x.2) tmps, defers := [] } w :=
    ⟨hsz, hsr.sr, hslot, Marks.nil _ _ _, trivial⟩
  refine RoundIn.mono (R := fun e w2 => match e with
    | .returned v => next (a.put o.dst v) w2
    | _ => False) (roundIn_of_wpIn (F := fence ro) trivial ?_) ?_
  · refine wpIn_mono (hround l w μ μ _ w hs0 (Evo.refl w μ)) ?_
    rintro e a1 w1 ⟨_, _, μ1, s1, ⟨rfl, hg1, hbody⟩, hs1, E1⟩
    have hl1 : μ1.loc id = some (ver, some l) := by
      obtain ⟨l1, hl1, _⟩ := hs1.sr.has id ver _ hg1
      have := E1.loc id ver l1 hl1 (hsr.sr.ok _ _ _ hl)
      rw [hl] at this
      cases this
      exact hl1
    obtain ⟨t1, d1, hb1, hz1, hsn1, hsr2, E2⟩ := hs1.sr.updLoop (st' := .busy) (pend' := none) hg1 hl1
    refine ⟨_, by simp [Instr.beginRound, run_getLoop hb1, run_setLoop hb1, Result.andThen]; rfl, ?_⟩
    have hs2 := hs1.heap E2 hsr2
    refine wpIn_mono (hbody w μ μ1 a1 _ hs2 (E1.trans E2)) ?_
    rintro e a3 w3 ⟨_, _, μ3, s3, ⟨hg3, hq3⟩, hs3, E3⟩
    have hl3 : μ3.loc id = some (ver, some l) := by
      obtain ⟨l3, hl3, _⟩ := hs3.sr.has id ver _ hg3
      have := E3.loc id ver l3 hl3 (hsr.sr.ok _ _ _ hl)
      rw [hl] at this
      cases this
      exact hl3
    cases e with
    | normal =>
      obtain ⟨t4, d4, hb4, hz4, hsn4, hsr4, E4⟩ := hs3.sr.updLoop (st' := .ready) (pend' := none) hg3 hl3
      refine ⟨.bool true, _, by simp [Instr.endRound, run_getLoop hb4, run_setLoop hb4, Result.andThen]; rfl, ?_⟩
      exact hK μ3 _ _ _ hq3 (hsr.put (E3.trans E4) hsr4 hN rfl) (hE.trans (E3.trans E4))
    | ret =>
      obtain ⟨t4, d4, hb4, hz4, hsn4, hsr4, E4⟩ := hs3.sr.updLoop (st' := .done) (pend' := some .ret) hg3 hl3
      refine ⟨.bool false, _, by simp [Instr.endRound, run_getLoop hb4, run_setLoop hb4, Result.andThen]; rfl, ?_⟩
      exact hK μ3 _ _ _ hq3 (hsr.put (E3.trans E4) hsr4 hN rfl) (hE.trans (E3.trans E4))
    | exit i =>
      obtain ⟨t4, d4, hb4, hz4, hsn4, hsr4, E4⟩ := hs3.sr.updLoop (st' := .done) (pend' := some (.exit i)) hg3 hl3
      refine ⟨.bool false, _, by simp [Instr.endRound, run_getLoop hb4, run_setLoop hb4, Result.andThen]; rfl, ?_⟩
      exact hK μ3 _ _ _ hq3 (hsr.put (E3.trans E4) hsr4 hN rfl) (hE.trans (E3.trans E4))
    | goto l => exact hq3.elim
    | panic ch => exact hq3.elim
    | outgrown => exact hq3.elim
  · intro e w2 he
    cases e with
    | returned v => exact he
    | _ => exact he.elim

theorem YCall.mono {id ver : Nat} {hs : List HV} {K K' : HV → Heap → Prop} (h : YCall P id ver hs H K) (hk : ∀ r H', K r H' → K' r H') : YCall P id ver hs H K' := by
  obtain ⟨f, n, snap, ps, assign, body, h1, h2, h3, h4⟩ := h
  refine ⟨f, n, snap, ps, assign, body, h1, h2, h3, fun l => (h4 l).mono ?_⟩
  rintro e s ⟨h5, h6, h7⟩
  refine ⟨h5, h6, h7.mono ?_⟩
  rintro e s ⟨h8, h9⟩
  refine ⟨h8, ?_⟩
  cases e with
  | normal => exact hk _ _ h9
  | ret => exact hk _ _ h9
  | exit i => exact hk _ _ h9
  | goto l => exact h9.elim
  | panic ch => exact h9.elim
  | outgrown => exact h9.elim

theorem run_enterLoop (fn : FuncId) (tmps : Array Value) (ps : Array Tmp) (assign body : Code) (w : World) : ∃ wb,
    (Instr.enterLoop fn tmps ps assign body none).run P w = .ok (w.heap.size + 1, [{ target := .collected w.heap.size, args := #[] }]) wb ∧ Grow w wb ∧
    wb.heap[w.heap.size + 1]? = some (.loop { state := .ready, pending := none, fn := fn, tmps := tmps, params := ps, assign := assign, body := body, defers := w.heap.size }) ∧
    wb.heap[w.heap.size]? = some (.deferred (some [])) ∧ w.heap.size + 1 < wb.heap.size := by
  have hwa : (w.alloc (.deferred (some []))).heap.size = w.heap.size + 1 := by show (w.heap.push _).size = _; simp
  refine ⟨(w.alloc (.deferred (some []))).alloc (.loop { state := .ready, pending := none, fn := fn, tmps := tmps, params := ps, assign := assign, body := body, defers := w.heap.size }), ?_, (Grow.alloc w _).trans (Grow.alloc _ _), ?_, ?_, ?_⟩
  · simp [Instr.enterLoop, World.alloc_eq, Result.andThen]
  · show ((w.alloc _).heap.push _)[w.heap.size + 1]? = _
    rw [Array.getElem?_push, if_pos hwa.symm]
  · rw [(Grow.alloc (w.alloc (.deferred (some []))) _).old _ (by omega)]
    show (w.heap.push _)[w.heap.size]? = _
    simp
  · show w.heap.size + 1 < ((w.alloc _).heap.push _).size
    rw [Array.size_push, hwa]
    omega

/-- A RANGE OVER A FUNCTION (not within another's round): the iterator is called with yield; at its end the loop's pending jump, if a round left one, is gone. -/
theorem AW.rangeFunc {Q : Exit → AS → Prop} {g : Operand} {ps : Array Tmp} {assign body : Code} {f : FuncId} {fs cs : List HV} (id : Nat) (hg : s.ev g = some (.fn (.func f) fs cs))
    (h : ∀ fn ver, ACall P f (fs ++ [.yl id ver] ++ cs) (hset s.heap id ver (.loop .ready none fn N s.slots ps assign body)) fun _ H' =>
      ∃ st pend, hget H' id = some (ver, .loop st pend fn N s.slots ps assign body) ∧ st ≠ .busy ∧ match pend with
        | none => Q .normal { s with heap := hset H' id ver (.loop .exhausted none fn N s.slots ps assign body) }
        | some c => AW P none N c Q { s with heap := hset H' id ver (.loop .exhausted (some c) fn N s.slots ps assign body) }) :
    AW P none N (.rangeFunc g ps assign body) Q s := by
  intro w0 μ0 μ a w hs hE
  refine wpIn_rangeFunc (F := fence none) fun fn _ => ?_
  obtain ⟨wb, hrun, gg, hlb, hdb, hsz⟩ := run_enterLoop (P := P) fn a.tmps ps assign body w
  have hE1 := Evo.repl (w' := wb) hs.sr id (some (w.heap.size + 1)) gg.toSame gg.size (fun b hb _ => gg.old b hb) (fun b hb => by cases hb; exact .inl (by omega))
  have hsr1 : SR wb (μ.set id (some (w.heap.size + 1))) (hset s.heap id μ.nx (.loop .ready none fn N s.slots ps assign body)) := by
    refine hs.sr.repl id (some (w.heap.size + 1)) _ gg.toSame gg.size (fun b hb _ => gg.old b hb) (fun b hb => by cases hb; exact .inl (by omega)) ?_
    exact ⟨a.tmps, w.heap.size, hlb, hs.size, fun t hv ht => ⟨(hs.slot t hv ht).1, Rep.evo hE1 hs.sr.ok _ _ (hs.slot t hv ht).2⟩⟩
  obtain ⟨us, vs, he, h1, h2⟩ := hs.ev hg
  have hcall := h fn μ.nx
  have hyl : Rep wb (μ.set id (some (w.heap.size + 1))) (.yl id μ.nx) (Value.func (.yield (w.heap.size + 1)) #[] #[]) := .inl ⟨w.heap.size + 1, by simp [Mu.set], rfl⟩
  have hargs : RepL wb (μ.set id (some (w.heap.size + 1))) (fs ++ [.yl id μ.nx] ++ cs) (us ++ [Value.func (.yield (w.heap.size + 1)) #[] #[]] ++ vs) :=
    RepL.append (RepL.append (RepL.evo hE1 hs.sr.ok _ _ h1) ⟨_, [], rfl, hyl, rfl⟩) (RepL.evo hE1 hs.sr.ok _ _ h2)
  have hin := (callsIn_wide (P := P) (n := 0)).2 (hcall.2 _ wb _ hsr1 hargs)
  refine ⟨w.heap.size + 1, [{ target := .collected w.heap.size, args := #[] }], wb, { target := .fn (.func f) vs.toArray, args := us.toArray ++ #[Value.func (.yield (w.heap.size + 1)) #[] #[]] }, wb, f,
    (us ++ [Value.func (.yield (w.heap.size + 1)) #[] #[]] ++ vs).toArray, wb, hrun, ?_, fun _ _ => trivial, ?_, fun hd => absurd (fence_depth none hd) (by omega), CallsIn.mono hin ?_⟩
  · have hc : a.eval (.const (Value.func (.yield (w.heap.size + 1)) #[] #[])) = Value.func (.yield (w.heap.size + 1)) #[] #[] := rfl
    simp [resolve, rangeCall, he, hc, Deferred.ofValue]
  · simp only [invoke]
    rw [hcall.1]
    simp
  · rintro e w3 ⟨v, r, H', μ', rfl, ⟨st, pend, hg3, hst, hk⟩, hsr3, hr3, E3⟩
    have hl3 : μ'.loc id = some (μ.nx, some (w.heap.size + 1)) := by
      obtain ⟨l3, hl3, _⟩ := hsr3.has id _ _ hg3
      have := E3.loc id _ l3 hl3 (by simp [Mu.set])
      simp only [Mu.set, if_true] at this
      rw [hl3]
      exact this.symm
    obtain ⟨t4, d4, hb4, hz4, hsn4, hsr4, E4⟩ := hsr3.updLoop (st' := .exhausted) (pend' := pend) hg3 hl3
    have hend : ∃ w4, (Instr.endLoop (w.heap.size + 1)).run P w3 = .ok pend w4 ∧ SR w4 μ' (hset H' id μ.nx (.loop .exhausted pend fn N s.slots ps assign body)) ∧ Evo w3 μ' w4 μ' := by
      refine ⟨_, ?_, hsr4, E4⟩
      cases st with
      | busy => exact absurd rfl hst
      | _ => simp [Instr.endLoop, run_getLoop hb4, run_setLoop hb4, Result.andThen]
    obtain ⟨w4, hrun4, hsr5, E5⟩ := hend
    have E2 := E3.trans E5
    have E := hE1.trans E2
    refine ⟨pend, w4, hrun4, ?_⟩
    have hno : ¬ (μ.set id (some (w.heap.size + 1))).owned w.heap.size := by
      rintro ⟨j, u, hj⟩
      simp only [Mu.set] at hj
      split at hj
      · simp at hj
      · have := hs.sr.blk hj; omega
    have hs4 : SRel none N w0.heap.size μ' { s with heap := hset H' id μ.nx (.loop .exhausted pend fn N s.slots ps assign body) } { a with defers := [{ target := .collected w.heap.size, args := #[] }] ++ a.defers } w4 := by
      refine ⟨hs.size, hsr5, fun t hv ht => ⟨(hs.slot t hv ht).1, Rep.evo E hs.sr.ok _ _ (hs.slot t hv ht).2⟩, ?_, trivial⟩
      obtain ⟨rs, hd, hnd, hrs⟩ := hs.marks
      obtain ⟨rs', hd', hnd', hrs'⟩ := hs.marks.evo E
      refine ⟨w.heap.size :: rs, by simp [hd], List.nodup_cons.2 ⟨fun hm => ?_, hnd⟩, fun r hr => ?_⟩
      · have := (Array.getElem?_eq_some_iff.1 (hrs _ hm).2.1).1
        omega
      · rcases List.mem_cons.1 hr with rfl | hr
        · exact ⟨hE.size, (E2.keep _ (by omega) hno).trans hdb, E2.owned_of (by omega) hno⟩
        · obtain ⟨h6, h7, h8⟩ := hrs r hr
          have hlt := (Array.getElem?_eq_some_iff.1 h7).1
          exact ⟨h6, (E.keep r hlt h8).trans h7, E.owned_of hlt h8⟩
    cases pend with
    | none => exact ⟨(fun _ h => by cases h), (fun h => by cases h), _, _, hk, hs4, hE.trans E⟩
    | some c => exact hk w0 μ0 μ' _ _ hs4 (hE.trans E)
end
end Go.AW
