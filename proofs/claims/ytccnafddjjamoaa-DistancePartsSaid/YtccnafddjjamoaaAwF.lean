/- The operations that change something (stores, new memory, appends, calls), regions in the order of the text. -/
import Derived.Test.YtccnafddjjamoaaAwE
import Derived.Laws.AppendOwn
namespace Go.AW
open Go

def okd (N : Nat) (d : Option Tmp) : Bool := match d with
  | some t => decide (t < N)
  | none => true

def AS.put (s : AS) (d : Option Tmp) (h : HV) : AS := match d with
  | some t => { s with slots := sset s.slots t h }
  | none => s

def AOp (P : Program) (ro : Option Nat) (N : Nat) (o : Oper) (K : AS → Prop) (s : AS) : Prop :=
  ∀ (w0 : World) (μ0 μ : Mu) (a : Act) (w : World) (next : Act → World → Prop) (Q : Exit → Act → World → Prop), SRel ro N w0.heap.size μ s a w → Evo w0 μ0 w μ →
    (∀ μ' s' a' w', K s' → SRel ro N w0.heap.size μ' s' a' w' → Evo w0 μ0 w' μ' → next a' w') → o.wpIn (fence ro) 0 P a w next Q

section
variable {P : Program} {ro : Option Nat} {N B : Nat} {s : AS} {μ μ' : Mu} {a : Act} {w w' : World}

theorem SRel.put (hs : SRel ro N B μ s a w) (E : Evo w μ w' μ') {H' : Heap} (hsr : SR w' μ' H') {d : Option Tmp} (hd : okd N d = true) {hv : HV} {v : Value} (hr : Rep w' μ' hv v) :
    SRel ro N B μ' (({ s with heap := H' } : AS).put d hv) (a.put d v) w' := by
  cases d with
  | none => exact ⟨hs.size, hsr, fun t h ht => ⟨(hs.slot t h ht).1, Rep.evo E hs.sr.ok _ _ (hs.slot t h ht).2⟩, hs.marks.evo E, hs.ro.evo E⟩
  | some t =>
    have htN : t < N := by simpa [okd] using hd
    refine ⟨by simp [Act.put, hs.size], hsr, fun j h hj => ?_, hs.marks.evo E, hs.ro.evo E⟩
    simp only [AS.put, sget_sset] at hj
    split at hj
    · rename_i he
      subst he
      cases hj
      refine ⟨htN, ?_⟩
      have : (a.put (some j) v).tmps.getD j undef = v := by
        simp only [Act.put]
        rw [Array.getD_eq_getD_getElem?, Array.getElem?_setIfInBounds_self_of_lt (by rw [hs.size]; exact htN)]
        rfl
      rw [this]; exact hr
    · rename_i hne
      obtain ⟨h1, h2⟩ := hs.slot j h hj
      refine ⟨h1, ?_⟩
      have : (a.put (some t) v).tmps.getD j undef = a.tmps.getD j undef := by
        simp only [Act.put]
        rw [Array.getD_eq_getD_getElem?, Array.getD_eq_getD_getElem?, Array.getElem?_setIfInBounds_ne (fun e => hne e.symm)]
      rw [this]; exact Rep.evo E hs.sr.ok _ _ h2

theorem AOp.value {o : Oper} {K : AS → Prop} (hnd : ∀ c, o.op ≠ .defer c) (hN : okd N o.dst = true)
    (h : ∀ B μ a w, SRel ro N B μ s a w → ∃ v hv μ' w' H', (execOp a.eval o).run P w = .ok (.value v) w' ∧ SR w' μ' H' ∧ Evo w μ w' μ' ∧ Rep w' μ' hv v ∧ K (({ s with heap := H' } : AS).put o.dst hv)) :
    AOp P ro N o K s := by
  intro w0 μ0 μ a w next Q hs hE hK
  obtain ⟨v, hv, μ', w', H', h1, h2, h3, h4, h5⟩ := h _ μ a w hs
  refine ⟨fun f _ => trivial, ?_⟩
  rw [Oper.semAt_eq _ _ _ hnd, h1]
  exact hK μ' _ _ w' h5 (hs.put h3 h2 hN h4) (hE.trans h3)

theorem AOp.skip {o : Oper} {K : AS → Prop} (hnd : ∀ c, o.op ≠ .defer c) (hN : okd N o.dst = true)
    (h : ∀ B μ a w, SRel ro N B μ s a w → ∃ μ' w' H', (execOp a.eval o).run P w = .ok .skip w' ∧ SR w' μ' H' ∧ Evo w μ w' μ' ∧ K (({ s with heap := H' } : AS).put o.dst (.v undef))) :
    AOp P ro N o K s := by
  intro w0 μ0 μ a w next Q hs hE hK
  obtain ⟨μ', w', H', h1, h2, h3, h5⟩ := h _ μ a w hs
  refine ⟨fun f _ => trivial, ?_⟩
  rw [Oper.semAt_eq _ _ _ hnd, h1]
  exact hK μ' _ _ w' h5 (hs.put h3 h2 hN (rfl : Rep w' μ' (.v undef) undef)) (hE.trans h3)

theorem AOp.pure {o : Oper} {K : AS → Prop} (hN : okd N o.dst = true) (h : aval P o.op s fun hv => K (s.put o.dst hv)) : AOp P ro N o K s := by
  refine AOp.value (fun c e => by rw [e] at h; exact h) hN fun B μ a w hs => ?_
  obtain ⟨v, hv, h1, h2, h3⟩ := aval_sound hs o h
  exact ⟨v, hv, μ, w, s.heap, h1, hs.sr, Evo.refl w μ, h3, h2⟩

theorem AOp.call {o : Oper} {K : AS → Prop} {c : Call} {f : Operand} {g : FuncId} {fs cs hs : List HV} (hop : o.op = .call c) (hc : c.callee = .value f) (hN : okd N o.dst = true)
    (hf : s.ev f = some (.fn (.func g) fs cs)) (ha : c.args.toList.mapM s.ev = some hs) (h : ACall P g (fs ++ hs ++ cs) s.heap fun r H' => K (({ s with heap := H' } : AS).put o.dst r)) : AOp P ro N o K s := by
  intro w0 μ0 μ a w next Q hsr hE hK
  refine ⟨fun f _ => trivial, ?_⟩
  rw [Oper.semAt_eq _ _ _ (fun c e => by rw [hop] at e; cases e)]
  obtain ⟨us, vs, he, h1, h2⟩ := hsr.ev hf
  have h3 := mapM_ev hsr ha
  have hrun : (execOp a.eval o).run P w = .ok (.enter g ((us ++ c.args.toList.map a.eval ++ vs).toArray)) w := by
    have : (us.toArray ++ c.args.map a.eval ++ vs.toArray) = (us ++ c.args.toList.map a.eval ++ vs).toArray := by
      apply Array.toList_inj.1; simp
    simp only [execOp, hop, resolve, hc, he, Deferred.ofValue, Sem.run_bind, Sem.run_pure, Result.andThen_ok, invoke, h.1 _ w, this]
  rw [hrun]
  refine ⟨fun hd => absurd (fence_depth ro hd) (by omega), ?_⟩
  have hcall := h.2 μ w _ hsr.sr (RepL.append (RepL.append h1 h3) h2)
  have hin : CallsIn (fence ro) 0 P g (us ++ c.args.toList.map a.eval ++ vs).toArray w (CallPost _ w μ) := (callsIn_wide (n := 0)).2 hcall
  refine hin.mono ?_
  rintro e w' ⟨v, r, H', μ', rfl, hk, hsr', hr, E⟩
  exact hK μ' _ _ w' hk (hsr.put E hsr' hN hr) (hE.trans E)

/-- writing cells into a list of cells -/
def splice (xs : List HV) (off : Nat) : List HV → List HV
  | [c] => xs.set off c
  | cs => xs.take off ++ cs ++ xs.drop (off + cs.length)

theorem storeCells_row (b o : Nat) (e : TypeId) : ∀ (vs : List Value) (i : Nat) (cur : Array Value) (w : World), Row w b cur e → o + i + vs.length ≤ cur.size → (∀ v ∈ vs, v.oneCell' = true) →
    ∃ w' cur', (storeCells ⟨b, o, none⟩ vs i).run P w = .ok () w' ∧ Row w' b cur' e ∧ cur'.toList = cur.toList.take (o + i) ++ vs ++ cur.toList.drop (o + i + vs.length) ∧
      Same w w' ∧ w'.heap.size = w.heap.size ∧ ∀ b', b' ≠ b → w'.heap[b']? = w.heap[b']?
  | [], i, cur, w, hr, _, _ => ⟨w, cur, rfl, hr, by simp, Same.refl w, rfl, fun _ _ => rfl⟩
  | v :: vs, i, cur, w, hr, hlen, h1 => by
    simp only [List.length_cons] at hlen
    have hlt : o + i < cur.size := by omega
    have hcell := hr.cell (o + i)
    rw [Array.getElem?_eq_getElem hlt] at hcell
    have hfree := hr.free hlt
    have hst : (store (Addr.add ⟨b, o, none⟩ i) v).run P w = .ok () (w.setCell ⟨b, o + i, none⟩ v) := by
      rw [run_store P w _ v .plain (h1 v (List.mem_cons_self ..)), Addr.add_lit, hcell, hfree]
      rfl
    have hr' : Row (w.setCell ⟨b, o + i, none⟩ v) b (cur.setIfInBounds (o + i) v) e := by
      obtain ⟨lo, hi, hh, hf⟩ := hr
      refine ⟨lo, hi, ?_, by simpa using hf⟩
      show (w.heap.modify b _)[b]? = _
      rw [Array.getElem?_modify, if_pos rfl, hh]
      simp
    obtain ⟨w', cur', h2, h3, h4, h5, h6, h7⟩ := storeCells_row b o e vs (i + 1) _ _ hr' (by simpa using by omega) (fun u hu => h1 u (List.mem_cons_of_mem _ hu))
    refine ⟨w', cur', ?_, h3, ?_, ⟨h5.os, h5.tape, h5.output⟩, by rw [h6]; show (w.heap.modify b _).size = _; simp, fun b' hb' => ?_⟩
    · simp only [storeCells, Sem.run_bind, hst, Result.andThen_ok, h2]
    · rw [h4, Array.toList_setIfInBounds]
      have hl : cur.toList.length = cur.size := by simp
      have hs : cur.toList.set (o + i) v = (cur.toList.take (o + i) ++ [v]) ++ cur.toList.drop (o + i + 1) := by
        rw [List.set_eq_take_append_cons_drop, if_pos (by omega)]
        simp
      have ht : (cur.toList.take (o + i) ++ [v]).length = o + (i + 1) := by simp; omega
      have h1 : (cur.toList.set (o + i) v).take (o + (i + 1)) = cur.toList.take (o + i) ++ [v] := by
        rw [hs, ← ht]; exact List.take_left
      have h2 : (cur.toList.set (o + i) v).drop (o + (i + 1) + vs.length) = cur.toList.drop (o + i + (vs.length + 1)) := by
        rw [hs, ← List.drop_drop, ← ht, List.drop_left, List.drop_drop]
        congr 1
        omega
      rw [h1, h2]
      simp
    · rw [h7 b' hb']
      show (w.heap.modify b _)[b']? = _
      rw [Array.getElem?_modify, if_neg (fun e => hb' e.symm)]

theorem splice_eq {xs cs : List HV} {off : Nat} (h : off + cs.length ≤ xs.length) : splice xs off cs = xs.take off ++ cs ++ xs.drop (off + cs.length) := by
  unfold splice
  split
  · rename_i c
    simp only [List.length_cons, List.length_nil] at h
    rw [List.set_eq_take_append_cons_drop, if_pos (by omega)]
    simp
  · rfl

theorem AOp.store {o : Oper} {K : AS → Prop} {t : TypeId} {x y : Operand} {id ver off k : Nat} {e : TypeId} {hv : HV} {xs cs : List HV} {T : TyI} (hop : o.op = .store t x y) (hN : okd N o.dst = true)
    (hx : s.ev x = some (.ptr id ver off)) (hy : s.ev y = some hv) (hcs : hv.cells? = some cs) (hg : hget s.heap id = some (ver, .arr k e xs)) (hT : ty P t = some T) (hsz : T.size = cs.length)
    (hfit : off + cs.length ≤ xs.length) (h : K (({ s with heap := hset s.heap id ver (.arr k e (splice xs off cs)) } : AS).put o.dst (.v undef))) : AOp P ro N o K s := by
  refine AOp.skip (fun c e => by rw [hop] at e; cases e) hN fun B μ a w hs => ?_
  obtain ⟨b, hl, he, h0, cur, vs, rest, hrow, hcl, hrl⟩ := hs.live (hs.ev hx) hg
  have hyr := hs.ev hy
  have hcr := cells?_rep hcs hyr
  have hone := cells?_ones hcs hyr
  have hcl' := hcr.length
  have hvl := hrl.length
  have hcurl : cur.toList.length = vs.length + rest.length := by rw [hcl, List.length_append]
  obtain ⟨w', cur', h1, h2, h3, h4, h5, h6⟩ := storeCells_row (P := P) b off e (a.eval y).cells.toList 0 cur w hrow (by rw [← Array.length_toList]; omega) (RepL.oneCells hone hcr)
  have hclen : cur'.size = cur.size := by
    rw [← Array.length_toList, h3]
    simp only [List.length_append, List.length_take, List.length_drop, Nat.add_zero, ← Array.length_toList]
    omega
  obtain ⟨hsr, hE⟩ := hs.sr.updArr (cs' := splice xs off cs) hg hl h4 h5 h6 hrow h2 hclen fun E => by
    have hcr' := RepL.evo E hs.sr.ok _ _ hcr
    have hrl' := RepL.evo E hs.sr.ok _ _ hrl
    rw [splice_eq hfit]
    refine ⟨((h0.take _).append hone).append (h0.drop _), cur', vs.take off ++ (a.eval y).cells.toList ++ vs.drop (off + cs.length), rest, h2, ?_, ((hrl'.take off).append hcr').append (hrl'.drop _)⟩
    rw [h3, hcl, Nat.add_zero, hcl', List.take_append_of_le_length (by omega), List.drop_append_of_le_length (by omega)]
    simp
  refine ⟨μ, w', _, ?_, hsr, hE, h⟩
  have hsz' : (a.eval y).cells.size = T.size := by rw [hsz, ← hcl', Array.length_toList]
  simp [execOp, hop, he, Instr.storeAt, Instr.sureAddr, storeVar, ty_sizeOf hT, hsz', h1]

theorem zcells_ones {v : Value} {cs : List HV} (h : zcells v = some cs) : ones cs := by
  cases v with
  | agg xs =>
    simp only [zcells] at h
    split at h
    · split at h
      · rename_i hb; cases h; exact ones_of_b hb
      · cases h
    · cases h
  | tuple vs => cases h
  | _ =>
    simp only [zcells] at h
    split at h
    · split at h
      · cases h; exact ones.single (by assumption)
      · cases h
    · cases h

theorem AOp.alloc {o : Oper} {K : AS → Prop} {e : TypeId} {T : TyI} {zs : List HV} (id : Nat) (hop : o.op = .alloc e) (hN : okd N o.dst = true) (hT : ty P e = some T) (hz : zcells T.zero = some zs)
    (h : ∀ ver, K (({ s with heap := hset s.heap id ver (.arr zs.length e zs) } : AS).put o.dst (.ptr id ver 0))) : AOp P ro N o K s := by
  refine AOp.value (fun c e => by rw [hop] at e; cases e) hN fun B μ a w hs => ?_
  have hr := zcells_rep (w := w) (μ := μ) hz
  obtain ⟨hsr, hE⟩ := hs.sr.alloc id zs.length e (rest := []) (zcells_ones hz) hr
  rw [List.append_nil] at hsr hE
  refine ⟨.pointer (some ⟨w.heap.size, 0, none⟩), .ptr id μ.nx 0, _, _, _, ?_, hsr, hE, .inl ⟨w.heap.size, by simp [Mu.set], rfl⟩, h μ.nx⟩
  simp [execOp, hop, Instr.alloc, ty_zero hT, newVar, newRow, World.alloc_eq]

theorem AOp.box {o : Oper} {K : AS → Prop} {e : TypeId} {x : Operand} {hv : HV} {cs : List HV} (hop : o.op = .box e x) (hN : okd N o.dst = true) (hx : s.ev x = some hv) (hcs : hv.cells? = some cs)
    (h : K (s.put o.dst (.fptr cs 0))) : AOp P ro N o K s := by
  refine AOp.value (fun c e => by rw [hop] at e; cases e) hN fun B μ a w hs => ?_
  have hxr := hs.ev hx
  have hcr := cells?_rep hcs hxr
  have g := Grow.alloc w (.cells (a.eval x).cells e)
  have hE := Evo.grow hs.sr g
  refine ⟨.pointer (some ⟨w.heap.size, 0, none⟩), .fptr cs 0, μ, w.alloc (.cells (a.eval x).cells e), s.heap, ?_, hs.sr.grow g, hE, ⟨cells?_ones hcs hxr, w.heap.size, 0, (a.eval x).cells.toList, rfl, ?_, ?_, RepL.evo hE hs.sr.ok _ _ hcr⟩, h⟩
  · simp [execOp, hop, Instr.box, newVar, newRow, World.alloc_eq]
  · rintro (⟨id, ver, hl⟩ | hh)
    · have := hs.sr.blk hl
      omega
    · have := (hs.sr.held _ hh).1
      omega
  · exact ⟨(a.eval x).cells, e, (0, 0), [], [], by show (w.heap.push _)[w.heap.size]? = _; simp, by simp, rfl⟩

theorem AOp.boxM {o : Oper} {K : AS → Prop} {e : TypeId} {x : Operand} {hv : HV} {cs : List HV} (id : Nat) (hop : o.op = .box e x) (hN : okd N o.dst = true) (hx : s.ev x = some hv) (hcs : hv.cells? = some cs)
    (h : ∀ ver, K (({ s with heap := hset s.heap id ver (.arr cs.length e cs) } : AS).put o.dst (.ptr id ver 0))) : AOp P ro N o K s := by
  refine AOp.value (fun c e => by rw [hop] at e; cases e) hN fun B μ a w hs => ?_
  have hxr := hs.ev hx
  have hcr := cells?_rep hcs hxr
  obtain ⟨hsr, hE⟩ := hs.sr.alloc id cs.length e (rest := []) (cells?_ones hcs hxr) hcr
  rw [List.append_nil] at hsr hE
  refine ⟨.pointer (some ⟨w.heap.size, 0, none⟩), .ptr id μ.nx 0, _, _, _, ?_, hsr, hE, .inl ⟨w.heap.size, by simp [Mu.set], rfl⟩, h μ.nx⟩
  simp [execOp, hop, Instr.box, newVar, newRow, World.alloc_eq]
end
end Go.AW
