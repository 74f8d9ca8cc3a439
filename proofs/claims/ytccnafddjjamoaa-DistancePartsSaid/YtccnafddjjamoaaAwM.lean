/- Maps whose keys are strings: making, looking up, setting, deleting, ranging. -/
import Derived.Test.YtccnafddjjamoaaAwH
import Derived.MapKept
import Derived.Maps.RangeRun
import Derived.Laws.IdiomRangeMap
namespace Go.AW
open Go Go.MapKept

def alook (k : List UInt8) : List (List UInt8 × HV) → Option HV
  | [] => none
  | (q, h) :: es => if k = q then some h else alook k es
def mput (k : List UInt8) (h : HV) : List (List UInt8 × HV) → List (List UInt8 × HV)
  | [] => [(k, h)]
  | (q, x) :: es => if k = q then (q, h) :: es else (q, x) :: mput k h es
def mdel (k : List UInt8) : List (List UInt8 × HV) → List (List UInt8 × HV)
  | [] => []
  | (q, x) :: es => if k = q then es else (q, x) :: mdel k es

theorem alook_none {k : List UInt8} : ∀ {es : List (List UInt8 × HV)}, alook k es = none ↔ k ∉ es.map (·.1)
  | [] => by simp [alook]
  | (q, h) :: es => by
    simp only [alook, List.map_cons, List.mem_cons, not_or]
    split
    · rename_i e; simp [e]
    · rename_i e; rw [alook_none (es := es)]; exact ⟨fun h => ⟨e, h⟩, fun h => h.2⟩

theorem mput_new {k : List UInt8} {h : HV} : ∀ {es : List (List UInt8 × HV)}, alook k es = none → mput k h es = es ++ [(k, h)]
  | [], _ => rfl
  | (q, x) :: es, hn => by
    simp only [alook] at hn
    split at hn
    · cases hn
    · rename_i e; simp only [mput, if_neg e, mput_new hn, List.cons_append]

theorem mput_keys {k : List UInt8} {h : HV} : ∀ {es : List (List UInt8 × HV)}, alook k es ≠ none → (mput k h es).map (·.1) = es.map (·.1)
  | [], hn => by simp [alook] at hn
  | (q, x) :: es, hn => by
    simp only [alook] at hn
    simp only [mput]
    split
    · rfl
    · rename_i e; rw [if_neg e] at hn; simp [mput_keys hn]

theorem mdel_sub {k : List UInt8} : ∀ {es : List (List UInt8 × HV)}, (mdel k es).Sublist es
  | [] => .slnil
  | (q, x) :: es => by
    simp only [mdel]
    split
    · exact List.sublist_cons_self ..
    · exact mdel_sub.cons_cons _

theorem same_str (a b : List UInt8) : Instr.sameNow .string (strV a) (strV b) = some (decide (a = b)) := by
  simp only [strV, Instr.sameNow]
  congr 1
  rw [Bool.eq_iff_iff]
  show (a.toArray == b.toArray) = true ↔ _
  simp

theorem find_str {w : World} {μ : Mu} {k : List UInt8} : ∀ {es : List (List UInt8 × HV)} {ents : List MapEntry} (i : Nat), ents.map (·.key) = es.map (fun x => strV x.1) → RepL w μ (es.map (·.2)) (ents.map (·.val)) →
    (alook k es = none ∧ Instr.findNow .string (strV k) ents i = some none) ∨
    ∃ j e h, ents[j]? = some e ∧ e.key = strV k ∧ alook k es = some h ∧ Rep w μ h e.val ∧ Instr.findNow .string (strV k) ents i = some (some (i + j, e.val)) ∧
      (∀ h', mput k h' es = es.modify j fun x => (x.1, h')) ∧ mdel k es = es.eraseIdx j ∧ j < es.length
  | [], [], i, _, _ => .inl ⟨rfl, rfl⟩
  | [], _ :: _, _, h, _ => by simp at h
  | _ :: _, [], _, h, _ => by simp at h
  | (q, h) :: es, e :: ents, i, hk, hr => by
    obtain ⟨x, xs, e1, h1, h2⟩ := hr
    simp only [List.map_cons, List.cons.injEq] at hk e1
    obtain ⟨hk1, hk2⟩ := hk
    obtain ⟨rfl, rfl⟩ := e1
    by_cases hq : k = q
    · right
      subst hq
      refine ⟨0, e, h, rfl, hk1, by simp [alook], h1, ?_, fun h' => by simp [mput], by simp [mdel], by simp⟩
      simp only [Instr.findNow, hk1, same_str, decide_true]
      rfl
    · have hf : ∀ r, Instr.findNow .string (strV k) ents (i + 1) = r → Instr.findNow .string (strV k) (e :: ents) i = r := fun r hr => by
        simp only [Instr.findNow, hk1, same_str, hq, decide_false, hr]
      rcases find_str (i + 1) hk2 h2 with ⟨h3, h4⟩ | ⟨j, e', h', h3, h4, h5, h6, h7, h8, h9, h10⟩
      · exact .inl ⟨by simp [alook, hq, h3], hf _ h4⟩
      · right
        refine ⟨j + 1, e', h', h3, h4, by simp [alook, hq, h5], h6, hf _ (by rw [h7]; congr 3; omega), fun h' => by simp [mput, hq, h8], by simp [mdel, hq, h9], by simpa using h10⟩

theorem modify_map_set {α β : Type} (g : α → β) (f : α → α) (v : β) (hf : ∀ x, g (f x) = v) : ∀ (l : List α) (j : Nat), (l.modify j f).map g = (l.map g).set j v
  | [], j => by simp
  | x :: l, 0 => by simp [hf]
  | x :: l, j + 1 => by simp [modify_map_set g f v hf l j]

theorem modify_map_same {α β : Type} (g : α → β) (f : α → α) : ∀ (l : List α) (j : Nat), (∀ x, l[j]? = some x → g (f x) = g x) → (l.modify j f).map g = l.map g
  | [], j, _ => by simp
  | x :: l, 0, h => by simp [h x rfl]
  | x :: l, j + 1, h => by simp [modify_map_same g f l j (fun y hy => h y (by simpa using hy))]

/-- does an iterator stand on this map? -/
def noIter (id : Nat) : Heap → Prop
  | [] => True
  | (_, _, .iter m _ _ _) :: H => m ≠ id ∧ noIter id H
  | _ :: H => noIter id H

theorem noIter_get {id : Nat} : ∀ {H : Heap}, noIter id H → ∀ j v m mv seen cur, hget H j = some (v, .iter m mv seen cur) → m ≠ id
  | [], _, _, _, _, _, _, _, h => by cases h
  | (i, w, o) :: H, hn, j, v, m, mv, seen, cur, h => by
    simp only [hget] at h
    split at h
    · cases h; exact hn.1
    · refine noIter_get (H := H) ?_ j v m mv seen cur h
      cases o with
      | iter => exact hn.2
      | _ => exact hn

section
variable {P : Program} {ro : Option Nat} {N : Nat} {s : AS} {w w' : World} {μ : Mu} {H : Heap}

/-- a block that is no row turns, all else stands -/
theorem SR.upd (h : SR w μ H) {id ver b : Nat} {o o' : AObj} (hg : hget H id = some (ver, o)) (hnr : ∀ cur e, ¬ Row w b cur e) (hl : μ.loc id = some (ver, some b))
    (hs : Same w w') (hsz : w'.heap.size = w.heap.size) (hold : ∀ b', b' ≠ b → w'.heap[b']? = w.heap[b']?)
    (ho : Evo w μ w' μ → OR w' μ o' (some b))
    (hit : Evo w μ w' μ → ∀ j v mver seen cur l, hget H j = some (v, .iter id mver seen cur) → OR w μ (.iter id mver seen cur) l → l ≠ some b → OR w' μ (.iter id mver seen cur) l) :
    SR w' μ (hset H id ver o') ∧ Evo w μ w' μ := by
  have E : Evo w μ w' μ :=
    { os := hs.os, tape := hs.tape, output := hs.output, size := by omega, nx := Nat.le_refl _
      keep := fun b' _ hno => hold b' fun e => hno (e ▸ ⟨id, ver, hl⟩)
      loc := fun _ _ _ h _ => h
      row := fun j u b' hj _ cur e hr => by
        by_cases hb : b' = b
        · subst hb
          exact absurd hr (hnr _ _)
        · exact ⟨cur, hr.of_heap (hold b' hb), rfl⟩
      own := fun j u b' hj _ => ⟨j, u, hj⟩
      held := rfl }
  refine ⟨⟨h.ok, fun j v o1 hj => ?_, fun j x hj => ?_, h.inj, fun b' hb' => ⟨by have := (h.held b' hb').1; omega, (h.held b' hb').2⟩⟩, E⟩
  · rw [hget_hset] at hj
    split at hj
    · rename_i he
      subst he
      cases hj
      exact ⟨some b, hl, ho E⟩
    · rename_i hne
      obtain ⟨l', hl', hor⟩ := h.has j v o1 hj
      have hlb : l' ≠ some b := fun e' => hne (h.inj _ _ _ _ _ (e' ▸ hl') hl)
      refine ⟨l', hl', ?_⟩
      have gen : (∀ mid mver seen cur, o1 = .iter mid mver seen cur → mid ≠ id) → OR w' μ o1 l' := fun hni => by
        refine hor.evo E h.ok (fun b' hb => ?_) (fun mid mver seen cur' ho' mb hm _ => ?_)
        · subst hb
          exact hold b' fun e' => hlb (by rw [e'])
        · exact hold mb fun e' => hni _ _ _ _ ho' (h.inj _ _ _ _ _ (e' ▸ hm) hl)
      cases o1 with
      | iter mid mver seen cur =>
        by_cases hm : mid = id
        · subst hm
          exact hit E j v mver seen cur l' hj hor hlb
        · exact gen fun _ _ _ _ e => by cases e; exact hm
      | _ => exact gen fun _ _ _ _ e => by cases e
  · rw [hget_hset]
    split
    · exact ⟨_, rfl⟩
    · exact h.only j x hj

theorem SR.updMap (h : SR w μ H) {id ver b : Nat} {es es' : List (List UInt8 × HV)} (hg : hget H id = some (ver, .map es)) (hl : μ.loc id = some (ver, some b))
    (hs : Same w w') (hsz : w'.heap.size = w.heap.size) (hold : ∀ b', b' ≠ b → w'.heap[b']? = w.heap[b']?)
    (ho : Evo w μ w' μ → OR w' μ (.map es') (some b))
    (hit : Evo w μ w' μ → ∀ j v mver seen cur l, hget H j = some (v, .iter id mver seen cur) → OR w μ (.iter id mver seen cur) l → l ≠ some b → OR w' μ (.iter id mver seen cur) l) :
    SR w' μ (hset H id ver (.map es')) ∧ Evo w μ w' μ := by
  refine h.upd hg (fun cur e hr => ?_) hl hs hsz hold ho hit
  obtain ⟨l, hl', hor⟩ := h.has id ver _ hg
  rw [hl] at hl'
  cases hl'
  obtain ⟨ents, clock, hm, _⟩ := hor
  obtain ⟨lo, hi, hc, _⟩ := hr
  rw [hm] at hc
  cases hc

theorem SR.updIter (h : SR w μ H) {id ver b mid mver : Nat} {seen seen' : List (List UInt8)} {cur cur' : Bool} (hg : hget H id = some (ver, .iter mid mver seen cur)) (hl : μ.loc id = some (ver, some b))
    (hs : Same w w') (hsz : w'.heap.size = w.heap.size) (hold : ∀ b', b' ≠ b → w'.heap[b']? = w.heap[b']?)
    (ho : Evo w μ w' μ → OR w' μ (.iter mid mver seen' cur') (some b)) : SR w' μ (hset H id ver (.iter mid mver seen' cur')) ∧ Evo w μ w' μ := by
  obtain ⟨l, hl', hor⟩ := h.has id ver _ hg
  rw [hl] at hl'
  cases hl'
  obtain ⟨_, mb, since, sn, last, hm, _⟩ := hor
  refine h.upd hg (fun cur e hr => ?_) hl hs hsz hold ho fun E j v mv sn' cu l hj hor' hlb => ?_
  · obtain ⟨lo, hi, hc, _⟩ := hr
    rw [hm] at hc
    cases hc
  · cases l with
    | none => exact hor'.elim
    | some b2 =>
      obtain ⟨h0, mb2, si2, sn2, la2, h2, h3⟩ := hor'
      refine ⟨h0, mb2, si2, sn2, la2, (hold b2 (fun e => hlb (by rw [e]))).trans h2, fun l' hl' => ?_⟩
      obtain ⟨rfl, ents, clock, h4, _⟩ := h3 l' hl'
      rw [hl] at hl'
      cases hl'
      rw [hm] at h4
      cases h4

/-- a map's object laid anew -/
theorem SR.allocMap (h : SR w μ H) (id : Nat) : SR (w.alloc (.map #[] 0)) (μ.set id (some w.heap.size)) (hset H id μ.nx (.map [])) ∧ Evo w μ (w.alloc (.map #[] 0)) (μ.set id (some w.heap.size)) := by
  have g := Grow.alloc w (.map #[] 0)
  have hE := Evo.repl h id (some w.heap.size) g.toSame g.size (fun b hb _ => g.old b hb) (fun b hb => by cases hb; exact .inl (Nat.le_refl _))
  refine ⟨h.repl id (some w.heap.size) _ g.toSame g.size (fun b hb _ => g.old b hb) (fun b hb => by cases hb; exact .inl (Nat.le_refl _)) ?_, hE⟩
  refine ⟨#[], 0, ?_, rfl, rfl, List.nodup_nil, (fun _ h => by cases h), List.nodup_nil, (fun _ h => by cases h)⟩
  show (w.heap.push _)[w.heap.size]? = _
  simp

theorem AOp.makeMap {o : Oper} {K : AS → Prop} {t : TypeId} (id : Nat) (hop : o.op = .makeMap t none) (hN : okd N o.dst = true)
    (h : ∀ ver, K (({ s with heap := hset s.heap id ver (.map []) } : AS).put o.dst (.mp id ver))) : AOp P ro N o K s := by
  refine AOp.value (fun c e => by rw [hop] at e; cases e) hN fun B μ a w hs => ?_
  obtain ⟨hsr, hE⟩ := hs.sr.allocMap id
  refine ⟨.map (some w.heap.size), .mp id μ.nx, _, _, _, ?_, hsr, hE, .inl ⟨w.heap.size, by simp [Mu.set], rfl⟩, h μ.nx⟩
  simp [execOp, hop, Instr.makeMap, World.alloc_eq]

/-- a live map -/
theorem SRel.liveMap {B : Nat} {a : Act} {id ver : Nat} {v : Value} {o : AObj} (hs : SRel ro N B μ s a w) (hr : Rep w μ (.mp id ver) v) (hg : hget s.heap id = some (ver, o)) :
    ∃ b, μ.loc id = some (ver, some b) ∧ v = .map (some b) ∧ OR w μ o (some b) := by
  obtain ⟨l, hl, hor⟩ := hs.sr.has id ver _ hg
  rcases hr with ⟨b, hb, rfl⟩ | ⟨hd, _⟩
  · rw [hl] at hb
    cases hb
    exact ⟨b, hl, rfl, hor⟩
  · exact absurd hl (hd.2 l)

theorem SRel.liveIt {B : Nat} {a : Act} {id ver : Nat} {v : Value} {o : AObj} (hs : SRel ro N B μ s a w) (hr : Rep w μ (.it id ver) v) (hg : hget s.heap id = some (ver, o)) :
    ∃ b, μ.loc id = some (ver, some b) ∧ v = .pointer (some ⟨b, 0, none⟩) ∧ OR w μ o (some b) := by
  obtain ⟨l, hl, hor⟩ := hs.sr.has id ver _ hg
  rcases hr with ⟨b, hb, rfl⟩ | ⟨hd, _⟩
  · rw [hl] at hb
    cases hb
    exact ⟨b, hl, rfl, hor⟩
  · exact absurd hl (hd.2 l)

theorem repL_append_one {cs : List HV} {vs : List Value} {c : HV} {v : Value} (h : RepL w μ cs vs) (hc : Rep w μ c v) : RepL w μ (cs ++ [c]) (vs ++ [v]) :=
  h.append ⟨v, [], rfl, hc, rfl⟩

theorem AOp.mapUpdate {o : Oper} {K : AS → Prop} {t kt et : TypeId} {m x y : Operand} {id ver : Nat} {k : List UInt8} {hv : HV} {es : List (List UInt8 × HV)} {T Tk : TyI} (hop : o.op = .mapUpdate t m x y) (hN : okd N o.dst = true)
    (hT : ty P t = some T) (hTd : T.desc = .map kt et) (hTk : ty P kt = some Tk) (hTkd : Tk.desc = .string)
    (hm : s.ev m = some (.mp id ver)) (hx : s.ev x = some (.str k)) (hy : s.ev y = some hv) (hg : hget s.heap id = some (ver, .map es)) (hni : noIter id s.heap)
    (h : K (({ s with heap := hset s.heap id ver (.map (mput k hv es)) } : AS).put o.dst (.v undef))) : AOp P ro N o K s := by
  refine AOp.skip (fun c e => by rw [hop] at e; cases e) hN fun B μ a w hs => ?_
  obtain ⟨b, hl, he, ents, clock, hb, hkeys, hvals, hborn, hlt, hnd, hkl⟩ := hs.liveMap (hs.ev hm) hg
  obtain ⟨hxe, hxl⟩ := hs.ev hx
  have hyr := hs.ev hy
  have hkd : P.underlying kt = some .string := by rw [← hTkd]; exact (ty_spec hTk).1
  have hk : (a.eval x) = strV k := hxe
  have htd : P.underlying t = some (.map kt et) := by rw [← hTd]; exact (ty_spec hT).1
  have hlb : b < w.heap.size := (Array.getElem?_eq_some_iff.1 hb).1
  have hchk := run_checkKey (P := P) (w := w) hkd (k := strV k) (by simp [strV, IsKey]) false 9999
  have done : ∀ (ents' : Array MapEntry) (clock' : Nat), (Instr.mapUpdate t (.map (some b)) (strV k) (a.eval y)).run P w = .ok () { w with heap := w.heap.set! b (.map ents' clock') } →
      (∀ w', Evo w μ w' μ → w'.heap[b]? = some (.map ents' clock') → OR w' μ (.map (mput k hv es)) (some b)) →
      ∃ μ' w' H', (execOp a.eval o).run P w = .ok .skip w' ∧ SR w' μ' H' ∧ Evo w μ w' μ' ∧ K (({ s with heap := H' } : AS).put o.dst (.v undef)) := by
    intro ents' clock' hrun hor
    obtain ⟨h1, h2⟩ := hs.sr.updMap (w' := { w with heap := w.heap.set! b (.map ents' clock') }) (es' := mput k hv es) hg hl ⟨rfl, rfl, rfl⟩ (by simp)
      (fun b' hb' => by simp [Array.getElem?_setIfInBounds_ne (fun e => hb' e.symm)])
      (fun E => hor _ E (by simp [hlb]))
      (fun _ j v mver seen cur l hj => absurd rfl (noIter_get hni j v id mver seen cur hj))
    refine ⟨μ, _, _, ?_, h1, h2, h⟩
    simp only [execOp, hop, hk, he, Sem.run_bind, hrun, Result.andThen_ok]
    rfl
  rcases find_str (k := k) 0 hkeys hvals with ⟨h1, h2⟩ | ⟨j, e, h', h1, h2, h3, h4, h5, h6, h7, h8⟩
  · refine done (ents.push { key := strV k, val := a.eval y, born := clock }) (clock + 1) ?_ ?_
    · simp [Instr.mapUpdate, run_underlying htd, MapKept.run_getObj_map hb, hchk, run_findKey hkd h2, run_setObj_map _ hb, Result.andThen]
    · intro w' E hb'
      rw [mput_new h1]
      refine ⟨_, _, hb', by simp [hkeys], ?_, ?_, ?_, ?_, ?_⟩
      · simp only [List.map_append, Array.toList_push, List.map_cons, List.map_nil]
        exact repL_append_one (RepL.evo E hs.sr.ok _ _ hvals) (Rep.evo E hs.sr.ok _ _ hyr)
      · simp only [List.map_append, Array.toList_push, List.map_cons, List.map_nil]
        rw [List.nodup_append]
        refine ⟨hborn, by simp, fun x hx y hy => ?_⟩
        simp only [List.mem_singleton] at hy
        obtain ⟨z, hz, rfl⟩ := List.mem_map.1 hx
        have := hlt z hz
        omega
      · intro z hz
        simp only [Array.toList_push, List.mem_append, List.mem_singleton] at hz
        rcases hz with hz | rfl
        · have := hlt z hz; omega
        · simp
      · simp only [List.map_append, List.map_cons, List.map_nil]
        rw [List.nodup_append]
        exact ⟨hnd, by simp, fun x hx y hy e => by
          simp only [List.mem_singleton] at hy
          exact alook_none.1 h1 (by rw [← hy, ← e]; exact hx)⟩
      · intro x hx
        simp only [List.mem_append, List.mem_singleton] at hx
        rcases hx with hx | rfl
        · exact hkl x hx
        · exact hxl
  · refine done (ents.modify j fun e => { e with key := strV k, val := a.eval y }) clock ?_ ?_
    · have hj : ents[j]? = some e := by simpa using h1
      simp [Instr.mapUpdate, run_underlying htd, MapKept.run_getObj_map hb, hchk, run_findKey hkd h5, hj, h2, run_keyThatStays (d := .string) (k := strV k) (by simp [strV, IsKey]), run_setObj_map _ hb, Result.andThen]
    · intro w' E hb'
      have hes : (mput k hv es).map (fun x => strV x.1) = es.map (fun x => strV x.1) := by
        rw [h6]; exact modify_map_same (fun x => strV x.1) (fun x => (x.1, hv)) es j (fun x _ => rfl)
      have hborn' : (ents.modify j fun e => { e with key := strV k, val := a.eval y }).toList.map (·.born) = ents.toList.map (·.born) := by
        rw [Array.toList_modify]; exact modify_map_same (fun x : MapEntry => x.born) (fun e => { e with key := strV k, val := a.eval y }) ents.toList j (fun x _ => rfl)
      refine ⟨_, _, hb', ?_, ?_, ?_, ?_, ?_, ?_⟩
      · rw [hes, Array.toList_modify, ← hkeys]
        refine modify_map_same (fun x : MapEntry => x.key) (fun e => { e with key := strV k, val := a.eval y }) ents.toList j fun x hx => ?_
        rw [h1] at hx
        cases hx
        exact h2.symm
      · rw [h6, Array.toList_modify, modify_map_set (fun x : List UInt8 × HV => x.2) (fun x => (x.1, hv)) hv (fun _ => rfl),
          modify_map_set (fun x : MapEntry => x.val) (fun e => { e with key := strV k, val := a.eval y }) (a.eval y) (fun _ => rfl)]
        exact RepL.set (RepL.evo E hs.sr.ok _ _ hvals) (Rep.evo E hs.sr.ok _ _ hyr) j
      · rw [hborn']; exact hborn
      · intro z hz
        have : z.born ∈ (ents.modify j fun e => { e with key := strV k, val := a.eval y }).toList.map (·.born) := List.mem_map.2 ⟨z, hz, rfl⟩
        rw [hborn'] at this
        obtain ⟨z', hz', e'⟩ := List.mem_map.1 this
        rw [← e']
        exact hlt z' hz'
      · rw [mput_keys (by rw [h3]; simp)]; exact hnd
      · intro x hx
        have : x.1 ∈ es.map (·.1) := by rw [← mput_keys (k := k) (h := hv) (by rw [h3]; simp)]; exact List.mem_map.2 ⟨x, hx, rfl⟩
        obtain ⟨y', hy', e'⟩ := List.mem_map.1 this
        rw [← e']
        exact hkl y' hy'

theorem AOp.lookup {o : Oper} {K : AS → Prop} {t kt et : TypeId} {m x : Operand} {id ver : Nat} {k : List UInt8} {es : List (List UInt8 × HV)} {T Tk Te : TyI} {z : HV} (hop : o.op = .lookup t m x false) (hN : okd N o.dst = true)
    (hT : ty P t = some T) (hTd : T.desc = .map kt et) (hTk : ty P kt = some Tk) (hTkd : Tk.desc = .string) (hTe : ty P et = some Te) (hz : constHV Te.zero = some z)
    (hm : s.ev m = some (.mp id ver)) (hx : s.ev x = some (.str k)) (hg : hget s.heap id = some (ver, .map es))
    (h : K (s.put o.dst ((alook k es).getD z))) : AOp P ro N o K s := by
  refine AOp.value (fun c e => by rw [hop] at e; cases e) hN fun B μ a w hs => ?_
  obtain ⟨b, hl, he, ents, clock, hb, hkeys, hvals, hborn, hlt, hnd, hkl⟩ := hs.liveMap (hs.ev hm) hg
  obtain ⟨hxe, hxl⟩ := hs.ev hx
  have hkd : P.underlying kt = some .string := by rw [← hTkd]; exact (ty_spec hTk).1
  have htd : P.underlying t = some (.map kt et) := by rw [← hTd]; exact (ty_spec hT).1
  have hk : (a.eval x) = strV k := hxe
  have hchk := run_checkKey (P := P) (w := w) hkd (k := strV k) (by simp [strV, IsKey]) ents.isEmpty 9999
  have hzr : Rep w μ z Te.zero := constHV_rep hz
  rcases find_str (k := k) 0 hkeys hvals with ⟨h1, h2⟩ | ⟨j, e, h', h1, h2, h3, h4, h5, h6, h7, h8⟩
  · refine ⟨Te.zero, z, μ, w, s.heap, ?_, hs.sr, Evo.refl w μ, hzr, by rw [h1] at h; exact h⟩
    simp [execOp, hop, hk, he, Instr.lookup, run_underlying htd, MapKept.run_getObj_map hb, hchk, run_findKey hkd h2, ty_zero hTe, Result.andThen]
  · refine ⟨e.val, h', μ, w, s.heap, ?_, hs.sr, Evo.refl w μ, h4, by rw [h3] at h; exact h⟩
    simp [execOp, hop, hk, he, Instr.lookup, run_underlying htd, MapKept.run_getObj_map hb, hchk, run_findKey hkd h5, Result.andThen]

theorem SR.allocIter (h : SR w μ H) (id : Nat) {mid mver mb : Nat} {es : List (List UInt8 × HV)} (hg : hget H mid = some (mver, .map es)) (hl : μ.loc mid = some (mver, some mb)) (hid : id ≠ mid) {ents : Array MapEntry} {clock : Nat}
    (hb : w.heap[mb]? = some (.map ents clock)) :
    SR (w.alloc (.mapIter (some mb) clock #[] clock)) (μ.set id (some w.heap.size)) (hset H id μ.nx (.iter mid mver [] false)) ∧ Evo w μ (w.alloc (.mapIter (some mb) clock #[] clock)) (μ.set id (some w.heap.size)) := by
  have g := Grow.alloc w (.mapIter (some mb) clock #[] clock)
  have hE := Evo.repl h id (some w.heap.size) g.toSame g.size (fun b hb _ => g.old b hb) (fun b hb => by cases hb; exact .inl (Nat.le_refl _))
  refine ⟨h.repl id (some w.heap.size) _ g.toSame g.size (fun b hb _ => g.old b hb) (fun b hb => by cases hb; exact .inl (Nat.le_refl _)) ?_, hE⟩
  have hmb := h.blk hl
  refine ⟨by have := h.ok mid mver _ hl; simp [Mu.set]; omega, mb, clock, #[], clock, ?_, fun l hl' => ?_⟩
  · show (w.heap.push _)[w.heap.size]? = _
    simp
  · simp only [Mu.set, if_neg (Ne.symm hid), hl] at hl'
    cases hl'
    refine ⟨rfl, ents, clock, (g.old mb hmb).trans hb, rfl, rfl, fun x _ => by simp, fun h => by cases h⟩

theorem AOp.range {o : Oper} {K : AS → Prop} {t kt et : TypeId} {m : Operand} {mid mver : Nat} {es : List (List UInt8 × HV)} {T : TyI} (id : Nat) (hop : o.op = .range t m) (hN : okd N o.dst = true)
    (hT : ty P t = some T) (hTd : T.desc = .map kt et) (hm : s.ev m = some (.mp mid mver)) (hg : hget s.heap mid = some (mver, .map es)) (hid : id ≠ mid)
    (h : ∀ ver, K (({ s with heap := hset s.heap id ver (.iter mid mver [] false) } : AS).put o.dst (.it id ver))) : AOp P ro N o K s := by
  refine AOp.value (fun c e => by rw [hop] at e; cases e) hN fun B μ a w hs => ?_
  obtain ⟨b, hl, he, ents, clock, hb, _⟩ := hs.liveMap (hs.ev hm) hg
  have htd : P.underlying t = some (.map kt et) := by rw [← hTd]; exact (ty_spec hT).1
  obtain ⟨hsr, hE⟩ := hs.sr.allocIter id hg hl hid hb
  refine ⟨.pointer (some ⟨w.heap.size, 0, none⟩), .it id μ.nx, _, _, _, ?_, hsr, hE, .inl ⟨w.heap.size, by simp [Mu.set], rfl⟩, h μ.nx⟩
  simp [execOp, hop, he, Instr.range, run_underlying htd, MapKept.run_getObj_map hb, World.alloc_eq, Result.andThen]

theorem RepL.mem {cs : List HV} {vs : List Value} (h : RepL w μ cs vs) {j : Nat} {v : Value} (hv : vs[j]? = some v) : ∃ c, cs[j]? = some c ∧ Rep w μ c v := by
  have hlen := h.length
  have hj : j < cs.length := by have := (List.getElem?_eq_some_iff.1 hv).1; omega
  obtain ⟨x, hx, hr⟩ := h.get (List.getElem?_eq_getElem hj)
  rw [hv] at hx
  cases hx
  exact ⟨_, List.getElem?_eq_getElem hj, hr⟩

theorem keys_at {es : List (List UInt8 × HV)} {ents : List MapEntry} (hk : ents.map (·.key) = es.map (fun x => strV x.1)) {j : Nat} {e : MapEntry} (he : ents[j]? = some e) :
    ∃ p, es[j]? = some p ∧ e.key = strV p.1 := by
  have h1 : (ents.map (·.key))[j]? = some e.key := by rw [List.getElem?_map, he]; rfl
  rw [hk, List.getElem?_map] at h1
  cases hp : es[j]? with
  | none => rw [hp] at h1; cases h1
  | some p => rw [hp] at h1; exact ⟨p, rfl, (Option.some.inj h1).symm⟩

theorem AOp.next {o : Oper} {K : AS → Prop} {x : Operand} {id ver mid mver : Nat} {seen : List (List UInt8)} {cur : Bool} {es : List (List UInt8 × HV)} (hop : o.op = .next x false) (hN : okd N o.dst = true)
    (hx : s.ev x = some (.it id ver)) (hg : hget s.heap id = some (ver, .iter mid mver seen cur)) (hgm : hget s.heap mid = some (mver, .map es))
    (h1 : (∀ p ∈ es, p.1 ∈ seen) → K (s.put o.dst (.tup [.bool false])))
    (h2 : ∀ k v, (k, v) ∈ es → k ∉ seen → K (({ s with heap := hset s.heap id ver (.iter mid mver (k :: seen) true) } : AS).put o.dst (.tup [.bool true, .str k, v]))) : AOp P ro N o K s := by
  refine AOp.value (fun c e => by rw [hop] at e; cases e) hN fun B μ a w hs => ?_
  obtain ⟨r, hl, he, h0, mb, since, sn, last, hr, hall⟩ := hs.liveIt (hs.ev hx) hg
  obtain ⟨lm, hlm, hmor⟩ := hs.sr.has mid mver _ hgm
  obtain ⟨rfl, ents, clock, hb, rfl, rfl, hseen, hcur⟩ := hall lm hlm
  obtain ⟨ents', clock', hb', hkeys, hvals, hborn, hlt, hnd, hkl⟩ := hmor
  rw [hb] at hb'
  cases hb'
  have hleft : ∀ e, e ∈ (leftOf ents sn).toList ↔ e ∈ ents.toList ∧ e.born ∉ sn.toList := fun e => by
    simp [leftOf]
  rcases Go.run_next_at (P := P) w o.type r mb _ _ sn ents _ hr hb hlt (Nat.le_refl _) with ⟨h3, h4⟩ | ⟨e, h3, w1, h4, h5⟩
  · refine ⟨_, .tup [.bool false], μ, w, s.heap, ?_, hs.sr, Evo.refl w μ, ⟨[.bool false], rfl, _, _, rfl, rfl, rfl⟩, h1 fun p hp => ?_⟩
    · simp only [execOp, hop, he, Sem.run_bind, h4, Result.andThen_ok]
      rfl
    · obtain ⟨j, hj⟩ := List.mem_iff_getElem?.1 hp
      have hkj : (es.map fun x => strV x.1)[j]? = some (strV p.1) := by rw [List.getElem?_map, hj]; rfl
      rw [← hkeys, List.getElem?_map] at hkj
      cases hej : ents.toList[j]? with
      | none => rw [hej] at hkj; cases hkj
      | some e =>
        rw [hej] at hkj
        have hke : e.key = strV p.1 := Option.some.inj hkj
        have hem : e ∈ ents.toList := List.mem_of_getElem? hej
        have hnot : ¬ (e ∈ (leftOf ents sn).toList) := fun hh => by
          have := Array.eq_empty_of_size_eq_zero h3
          rw [this] at hh
          cases hh
        have hin : e.born ∈ sn.toList := Classical.byContradiction fun hn => hnot ((hleft e).2 ⟨hem, hn⟩)
        obtain ⟨k, hk, hkk⟩ := (hseen e hem).1 hin
        rw [hke] at hkk
        rw [strV_inj hkk]
        exact hk
  · obtain ⟨hem, hns⟩ := (hleft e).1 h3
    obtain ⟨j, hej⟩ := List.mem_iff_getElem?.1 hem
    obtain ⟨p, hpj, hke⟩ := keys_at hkeys hej
    have hval : (ents.toList.map (·.val))[j]? = some e.val := by rw [List.getElem?_map, hej]; rfl
    obtain ⟨c, hc, hcr⟩ := RepL.mem hvals hval
    have hc' : c = p.2 := by
      rw [List.getElem?_map, hpj] at hc
      exact (Option.some.inj hc).symm
    subst hc'
    have hpm : p ∈ es := List.mem_of_getElem? hpj
    have hw1 : Same w w1 ∧ w1.heap = w.heap := by
      rcases h4 with rfl | rfl
      · exact ⟨Same.refl _, rfl⟩
      · exact ⟨⟨rfl, rfl, rfl⟩, rfl⟩
    have hrl : r < w.heap.size := (Array.getElem?_eq_some_iff.1 hr).1
    have hmr : mb ≠ r := fun e' => by subst e'; rw [hr] at hb; cases hb
    have hknot : p.1 ∉ seen := fun hh => hns ((hseen e hem).2 ⟨p.1, hh, hke⟩)
    have hbeq : ∀ x ∈ ents.toList, x.born = e.born → x = e := fun x hx hxe => by
      obtain ⟨i, hi⟩ := List.mem_iff_getElem?.1 hx
      have h6 : (ents.toList.map (·.born))[i]? = some e.born := by rw [List.getElem?_map, hi]; simp [hxe]
      have h7 : (ents.toList.map (·.born))[j]? = some e.born := by rw [List.getElem?_map, hej]; rfl
      have hil : i < (ents.toList.map (·.born)).length := (List.getElem?_eq_some_iff.1 h6).1
      have := (List.getElem?_inj hil hborn).1 (h6.trans h7.symm)
      subst this
      rw [hej] at hi
      exact (Option.some.inj hi).symm
    obtain ⟨h6, h7⟩ := hs.sr.updIter (w' := ChangeMaps.setBlock w1 r (.mapIter (some mb) last (sn.push e.born) last)) (seen' := p.1 :: seen) (cur' := true) hg hl
      ⟨hw1.1.os, hw1.1.tape, hw1.1.output⟩ (by simp [ChangeMaps.setBlock, hw1.2]) (fun b' hb' => by
        simp only [ChangeMaps.setBlock, hw1.2]
        rw [Array.getElem?_setIfInBounds_ne (fun e => hb' e.symm)])
      (fun E => by
        refine ⟨h0, mb, last, sn.push e.born, last, ?_, fun l' hl' => ?_⟩
        · simp [ChangeMaps.setBlock, hw1.2, hrl]
        · rw [hlm] at hl'
          cases hl'
          refine ⟨rfl, ents, last, ?_, rfl, rfl, fun x hx => ?_, fun _ => ⟨p.1, rfl, e, hem, hke, by simp⟩⟩
          · simp only [ChangeMaps.setBlock, hw1.2]
            rw [Array.getElem?_setIfInBounds_ne (fun e => hmr e.symm)]
            exact hb
          · simp only [Array.toList_push, List.mem_append, List.mem_cons, List.not_mem_nil, or_false]
            constructor
            · rintro (hx' | hx')
              · obtain ⟨k, hk, hkk⟩ := (hseen x hx).1 hx'
                exact ⟨k, .inr hk, hkk⟩
              · rw [hbeq x hx hx']
                exact ⟨p.1, .inl rfl, hke⟩
            · rintro ⟨k, rfl | hk, hkk⟩
              · right
                obtain ⟨i, hi⟩ := List.mem_iff_getElem?.1 hx
                obtain ⟨q, hq, hqk⟩ := keys_at hkeys hi
                have e1 : q.1 = p.1 := strV_inj (hqk.symm.trans hkk)
                have h8 : (es.map (·.1))[i]? = some p.1 := by rw [List.getElem?_map, hq]; simp [e1]
                have h9 : (es.map (·.1))[j]? = some p.1 := by rw [List.getElem?_map, hpj]; rfl
                have := (List.getElem?_inj (List.getElem?_eq_some_iff.1 h8).1 hnd).1 (h8.trans h9.symm)
                subst this
                rw [hej] at hi
                rw [Option.some.inj hi]
              · exact .inl ((hseen x hx).2 ⟨k, hk, hkk⟩))
    refine ⟨.tuple #[.bool true, e.key, e.val], .tup [.bool true, .str p.1, p.2], μ, _, _, ?_, h6, h7, ?_, h2 p.1 p.2 hpm hknot⟩
    · simp only [execOp, hop, he, Sem.run_bind, h5, Result.andThen_ok]
      rfl
    · refine ⟨[.bool true, e.key, e.val], rfl, _, _, rfl, rfl, _, _, rfl, ⟨hke, hkl p hpm⟩, _, _, rfl, Rep.evo h7 hs.sr.ok _ _ hcr, rfl⟩

theorem alook_mem {k : List UInt8} {v : HV} : ∀ {es : List (List UInt8 × HV)}, (es.map (·.1)).Nodup → (k, v) ∈ es → alook k es = some v
  | (q, h) :: es, hn, hm => by
    simp only [List.map_cons, List.nodup_cons] at hn
    simp only [alook]
    rcases List.mem_cons.1 hm with e | hm
    · cases e; simp
    · rw [if_neg, alook_mem hn.2 hm]
      intro e
      exact hn.1 (List.mem_map.2 ⟨(k, v), hm, e⟩)

theorem AOp.entry {o : Oper} {K : AS → Prop} {x : Operand} {id ver mid mver : Nat} {k : List UInt8} {seen : List (List UInt8)} {es : List (List UInt8 × HV)} {v : HV} (hop : o.op = .entry x) (hN : okd N o.dst = true)
    (hx : s.ev x = some (.it id ver)) (hg : hget s.heap id = some (ver, .iter mid mver (k :: seen) true)) (hgm : hget s.heap mid = some (mver, .map es)) (hk : alook k es = some v)
    (h : K (s.put o.dst (.tup [.str k, v]))) : AOp P ro N o K s := by
  refine AOp.value (fun c e => by rw [hop] at e; cases e) hN fun B μ a w hs => ?_
  obtain ⟨r, hl, he, h0, mb, since, sn, last, hr, hall⟩ := hs.liveIt (hs.ev hx) hg
  obtain ⟨lm, hlm, hmor⟩ := hs.sr.has mid mver _ hgm
  obtain ⟨rfl, ents, clock, hb, rfl, rfl, hseen, hcur⟩ := hall lm hlm
  obtain ⟨ents', clock', hb', hkeys, hvals, hborn, hlt, hnd, hkl⟩ := hmor
  rw [hb] at hb'
  cases hb'
  obtain ⟨k', hk', e, hem, hke, hback⟩ := hcur rfl
  cases hk'
  obtain ⟨j, hej⟩ := List.mem_iff_getElem?.1 hem
  obtain ⟨p, hpj, hke'⟩ := keys_at hkeys hej
  have hval : (ents.toList.map (·.val))[j]? = some e.val := by rw [List.getElem?_map, hej]; rfl
  obtain ⟨c, hc, hcr⟩ := RepL.mem hvals hval
  have hc' : c = p.2 := by
    rw [List.getElem?_map, hpj] at hc
    exact (Option.some.inj hc).symm
  subst hc'
  have hpm : p ∈ es := List.mem_of_getElem? hpj
  have hpk : p.1 = k := strV_inj (hke'.symm.trans hke)
  have hv : v = p.2 := by
    have := alook_mem (k := k) (v := p.2) hnd (by rw [← hpk]; exact hpm)
    rw [hk] at this
    exact Option.some.inj this
  subst hv
  have hbeq : ∀ x ∈ ents.toList, x.born = e.born → x = e := fun x hx hxe => by
    obtain ⟨i, hi⟩ := List.mem_iff_getElem?.1 hx
    have h6 : (ents.toList.map (·.born))[i]? = some e.born := by rw [List.getElem?_map, hi]; simp [hxe]
    have h7 : (ents.toList.map (·.born))[j]? = some e.born := by rw [List.getElem?_map, hej]; rfl
    have hil : i < (ents.toList.map (·.born)).length := (List.getElem?_eq_some_iff.1 h6).1
    have := (List.getElem?_inj hil hborn).1 (h6.trans h7.symm)
    subst this
    rw [hej] at hi
    exact (Option.some.inj hi).symm
  have hfind : ents.find? (fun x => x.born == e.born) = some e := by
    cases hf : ents.find? (fun x => x.born == e.born) with
    | none =>
      have := Array.find?_eq_none.1 hf e (by simpa using hem)
      simp at this
    | some y =>
      have h1 := Array.find?_some hf
      have h2 := Array.mem_of_find?_eq_some hf
      rw [hbeq y (by simpa using h2) (by simpa using h1)]
  refine ⟨.tuple #[e.key, e.val], .tup [.str k, p.2], μ, w, s.heap, ?_, hs.sr, Evo.refl w μ, ⟨[e.key, e.val], rfl, _, _, rfl, ⟨hke, hpk ▸ hkl p hpm⟩, _, _, rfl, hcr, rfl⟩, h⟩
  simp [execOp, hop, he, Instr.entry, getObj, Sem.run, hr, hback, hb, hfind, Result.andThen]
end
end Go.AW
